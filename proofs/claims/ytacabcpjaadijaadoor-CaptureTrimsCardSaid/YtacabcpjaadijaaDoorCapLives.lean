/-
  The chapter's example of layer 19.
-/
import Derived.Test.YtacabcpjaadijaaDoorCapFrom
import Derived.Test.YtacabcpjaadijaaDoorCapShelf
namespace Go.Proofs.YtacabcpjaadijaaDoor
open Go Go.RowKit Mono Num
set_option linter.unusedVariables false
set_option linter.unusedSimpArgs false
set_option maxRecDepth 100000

theorem dec7 : Lib.decDigits 7 = [55] := by decide +kernel
theorem rep12 : Lib.repeatL [(48 : UInt8)] 12 = [48, 48, 48, 48, 48, 48, 48, 48, 48, 48, 48, 48] := by decide +kernel
theorem name7 (w : World) : Calls Tryd.prog 15 #[.int .i64 7] w fun e w' => e = .returned (.string ⟨#[111, 48, 48, 48, 48, 48, 48, 48, 48, 48, 48, 48, 48, 55]⟩) ∧ Ext w w' := by
  have HR := Lib.hid (fun w => Tryd.strings_Repeat ⟨#[48]⟩ 12 w (by decide) (by decide))
  have HI := Lib.hid (fun w => Tryd.strconv_Itoa_small 7 (by decide) w)
  rw [dec7] at HI
  simp only [rep12] at HR
  go_enter Tryd.func15, Tryd.ntmps15
  go_wp2_with fail
  refine (HI.out _).mono ?_
  rintro e w1 ⟨rfl, rfl⟩
  go_wp2_with fail
  refine (HR.out _).mono ?_
  rintro e w2 ⟨rfl, hx⟩
  go_wp2_with fail
  go_ret
  exact ⟨rfl, hx⟩
set_option maxHeartbeats 2000000 in
theorem number7 (w : World) : Calls Tryd.prog 17 #[.string ⟨#[111, 48, 48, 48, 48, 48, 48, 48, 48, 48, 48, 48, 48, 55]⟩] w fun e w' => e = .returned (.int .i64 7) ∧ w = w' := by
  have e0 : ((⟨#[111, 48, 48, 48, 48, 48, 48, 48, 48, 48, 48, 48, 48, 55]⟩ : ByteArray)[0]'(by decide)).toNat = 111 := rfl
  have e1 : ((⟨#[111, 48, 48, 48, 48, 48, 48, 48, 48, 48, 48, 48, 48, 55]⟩ : ByteArray)[1]'(by decide)).toNat = 48 := rfl
  have e2 : ((⟨#[111, 48, 48, 48, 48, 48, 48, 48, 48, 48, 48, 48, 48, 55]⟩ : ByteArray)[2]'(by decide)).toNat = 48 := rfl
  have e3 : ((⟨#[111, 48, 48, 48, 48, 48, 48, 48, 48, 48, 48, 48, 48, 55]⟩ : ByteArray)[3]'(by decide)).toNat = 48 := rfl
  have e4 : ((⟨#[111, 48, 48, 48, 48, 48, 48, 48, 48, 48, 48, 48, 48, 55]⟩ : ByteArray)[4]'(by decide)).toNat = 48 := rfl
  have e5 : ((⟨#[111, 48, 48, 48, 48, 48, 48, 48, 48, 48, 48, 48, 48, 55]⟩ : ByteArray)[5]'(by decide)).toNat = 48 := rfl
  have e6 : ((⟨#[111, 48, 48, 48, 48, 48, 48, 48, 48, 48, 48, 48, 48, 55]⟩ : ByteArray)[6]'(by decide)).toNat = 48 := rfl
  have e7 : ((⟨#[111, 48, 48, 48, 48, 48, 48, 48, 48, 48, 48, 48, 48, 55]⟩ : ByteArray)[7]'(by decide)).toNat = 48 := rfl
  have e8 : ((⟨#[111, 48, 48, 48, 48, 48, 48, 48, 48, 48, 48, 48, 48, 55]⟩ : ByteArray)[8]'(by decide)).toNat = 48 := rfl
  have e9 : ((⟨#[111, 48, 48, 48, 48, 48, 48, 48, 48, 48, 48, 48, 48, 55]⟩ : ByteArray)[9]'(by decide)).toNat = 48 := rfl
  have e10 : ((⟨#[111, 48, 48, 48, 48, 48, 48, 48, 48, 48, 48, 48, 48, 55]⟩ : ByteArray)[10]'(by decide)).toNat = 48 := rfl
  have e11 : ((⟨#[111, 48, 48, 48, 48, 48, 48, 48, 48, 48, 48, 48, 48, 55]⟩ : ByteArray)[11]'(by decide)).toNat = 48 := rfl
  have e12 : ((⟨#[111, 48, 48, 48, 48, 48, 48, 48, 48, 48, 48, 48, 48, 55]⟩ : ByteArray)[12]'(by decide)).toNat = 48 := rfl
  have e13 : ((⟨#[111, 48, 48, 48, 48, 48, 48, 48, 48, 48, 48, 48, 48, 55]⟩ : ByteArray)[13]'(by decide)).toNat = 55 := rfl
  go_enter Tryd.func17, Tryd.ntmps17
  go_wp2_with fail
  go_loopw [3, 4] (fun n i wr => ∃ k : Int, 1 ≤ k ∧ k ≤ 14 ∧ i = .int .i64 k ∧ n = .int .i64 (if k = 14 then 7 else 0) ∧ w = wr) (fun _ i _ => 14 - (intOf i).toNat)
  case atStart => exact ⟨1, by decide, by decide, rfl, rfl, rfl⟩
  case round =>
    obtain ⟨k, h1, h2, rfl, rfl, rfl⟩ := hrel
    have hk : k = 1 ∨ k = 2 ∨ k = 3 ∨ k = 4 ∨ k = 5 ∨ k = 6 ∨ k = 7 ∨ k = 8 ∨ k = 9 ∨ k = 10 ∨ k = 11 ∨ k = 12 ∨ k = 13 ∨ k = 14 := by omega
    rcases hk with rfl | rfl | rfl | rfl | rfl | rfl | rfl | rfl | rfl | rfl | rfl | rfl | rfl | rfl
    iterate 13
      · simp only [Int.reduceEq, if_false, if_true]
        go_wp2_with fail
        go_roundw
        case rel => exact ⟨_, by decide, by decide, rfl, rfl, by first | rfl | trivial⟩
        case measure => simp [intOf]
    · go_wp2_with fail
      go_ret
      exact ⟨rfl, rfl⟩
theorem lives_any (w : World) : Calls Tryd.prog 9 #[] w fun e w' => e = .returned (.bool true) ∧ Ext w w' := by
  go_enter Tryd.func9, Tryd.ntmps9
  go_wp2_with fail
  refine (name7 _).mono ?_
  rintro e w1 ⟨rfl, x1⟩
  go_wp2_with fail
  refine (number7 _).mono ?_
  rintro e w2 ⟨rfl, rfl⟩
  go_wp2_with fail
  have bl := Blk.new w1 #[.int .i64 0, .int .i64 3, .int .i64 0, .int .i64 0, .int .i64 0, .int .i64 0, .slice none 0 0, .int .i64 0, .int .i64 4, .int .i64 0, .int .i64 0, .int .i64 0, .int .i64 0, .slice none 0 0] 32
  have hi : (Ch.mk 0 3 0 0 0 0 []).ints := by unfold Ch.ints In64; decide
  have hi2 : (Ch.mk 0 4 0 0 0 0 []).ints := by unfold Ch.ints In64; decide
  have hcs : Cs _ (.slice (some ⟨w1.heap.size, 0, none⟩) 2 2) [(⟨0, 3, 0, 0, 0, 0, []⟩, .slice none 0 0), (⟨0, 4, 0, 0, 0, 0, []⟩, .slice none 0 0)] := ⟨⟨_, 2, rfl, Nat.le_refl _, by decide, by simp, fun _ => ⟨_, 0, rfl, bl.lt, fun j u hu => by rw [Nat.zero_add]; exact bl.cell (i := j) hu⟩⟩, fun x hx => by
    simp only [List.mem_cons, List.not_mem_nil, or_false] at hx
    rcases hx with rfl | rfl
    · exact ⟨Ws.nil_ _, hi⟩
    · exact ⟨Ws.nil_ _, hi2⟩⟩
  have HF := Lib.hid (capFrom_any 3 5 _ _ _ hcs (by decide) (fun x hx => by
    simp only [List.mem_cons, List.not_mem_nil, or_false] at hx
    rcases hx with rfl | rfl <;> decide))
  have X1 := Lib.hid (Ext.trans x1 (ext_alloc w1 (.cells #[.int .i64 0, .int .i64 3, .int .i64 0, .int .i64 0, .int .i64 0, .int .i64 0, .slice none 0 0, .int .i64 0, .int .i64 4, .int .i64 0, .int .i64 0, .int .i64 0, .int .i64 0, .slice none 0 0] 32)))
  clear bl hcs x1 hi hi2
  refine HF.out.mono ?_
  rintro e w3 ⟨r, outs, rfl, hr, hm, hx3⟩
  have hlen : outs.length = 1 := by
    have := congrArg List.length hm
    rw [List.length_map] at this
    rw [this]
    decide
  obtain ⟨A, c, rfl, _⟩ := hr.at_
  rw [hlen]
  have X3 := Lib.hid (Ext.trans X1.out hx3)
  clear hx3 hm hr hlen
  go_wp2_with fail
  go_ret
  exact ⟨rfl, X3.out⟩
end Go.Proofs.YtacabcpjaadijaaDoor
