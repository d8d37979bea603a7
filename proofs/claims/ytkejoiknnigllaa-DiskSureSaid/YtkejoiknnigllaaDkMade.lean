/-
  Layer 15: made: both disks behind acts, with power.
-/
import Derived.Test.YtkejoiknnigllaaDkActs
namespace Go.Proofs.Ytkejoiknnigllaa
open Go Go.RowKit Mono
set_option linter.unusedVariables false
set_option linter.unusedSimpArgs false
set_option maxRecDepth 100000
set_option maxHeartbeats 2000000

/-- The disk that 'made' tells. -/
def madeD (l : List (Act × Value)) : Dk := dPower (actsP l (Dk.fresh 1048576))
theorem madeD_ok (l : List (Act × Value)) : (madeD l).Ok := dPower_ok (actsP_ok (fresh_ok (by decide)))
theorem madeD_small {l : List (Act × Value)} {W : World} {v : Value} (h : As W v l) : (madeD l).SmallC (l.length + 1) := by
  have := actsP_small (l := l) (fresh_small 1048576) (fun p hp => by have := (h.in_ p hp).2.2.2.1.2; omega)
  exact dPower_small this
theorem made_any (v : Value) (l : List (Act × Value)) (W : World) (hl : As W v l) (hlight : LightA l) :
    Calls Try.prog 10 #[v] W fun e w' => ∃ bd br, e = .returned (.tuple #[.pointer (some ⟨bd, 0, none⟩), .pointer (some ⟨br, 0, none⟩), .bool true]) ∧ PairZ W.heap.size bd br (madeD l) w' ∧ Ext W w' := by
  obtain ⟨A, c, rfl, g1, g2, g4⟩ := hl.at_
  have H4 := Lib.hid g4
  have HL := Lib.hid hl
  have HLI := Lib.hid hlight
  unfold maxLen at g2
  clear g4 hl hlight
  have HD : Calls Try.prog 20 #[.int .i64 1048576] W _ := dkNew_any 1048576 W (by decide)
  have HR : ∀ w, Calls Try.prog 27 #[.int .i64 1048576] w _ := fun w => rnew_any 1048576 w (by decide)
  have HDH := Lib.hid HD
  have HRH := Lib.hid HR
  clear HD HR
  go_enter Try.func10, Try.ntmps10
  go_wp2_with fail
  refine HDH.out.mono ?_
  rintro e w1 ⟨rfl, hx1, hd1⟩
  go_wp2_with fail
  refine (HRH.out _).mono ?_
  rintro e w2 ⟨rfl, hx2, hr2⟩
  have HP2 := Lib.hid (pair_new hd1 hx1 hx2 hr2)
  have HX2 := Lib.hid (hx1.trans hx2)
  obtain ⟨bd, hbd⟩ : ∃ b, b = W.heap.size + 1 := ⟨_, rfl⟩
  obtain ⟨br, hbr⟩ : ∃ b, b = w1.heap.size := ⟨_, rfl⟩
  rw [← hbd, ← hbr] at HP2 ⊢
  clear hd1 hx1 hx2 hr2 hbd hbr HDH HRH
  go_wp2_with fail
  go_loopw [15] (fun i wr => ∃ k : Nat, k ≤ l.length ∧ i = .int .i64 k ∧ PairZ W.heap.size bd br (actsP (l.take k) (Dk.fresh 1048576)) wr ∧ Ext W wr) (fun i _ => l.length - (intOf i).toNat)
  case atStart => exact ⟨0, by omega, rfl, HP2.out, HX2.out⟩
  case round =>
    obtain ⟨k, hk, rfl, hp, hx⟩ := hrel
    have HP := Lib.hid hp
    have HX := Lib.hid hx
    clear hp
    by_cases hkl : k < l.length
    · obtain ⟨b, off, rfl, hb, hc⟩ := H4.out (by omega)
      obtain ⟨⟨a, x⟩, hget⟩ : ∃ p, l[k]? = some p := ⟨_, List.getElem?_eq_getElem hkl⟩
      have cc := hc k _ hget
      have c0 : wr.cell? ⟨b, off + k * 5, none⟩ = some (.int .i64 a.kind) := by have := (hx.cell (p := ⟨b, off + (k * 5 + 0), none⟩) hb).trans (cc 0 _ rfl); rwa [← Nat.add_assoc] at this
      have c1 : wr.cell? ⟨b, off + k * 5 + 1, none⟩ = some (strV a.name) := by have := (hx.cell (p := ⟨b, off + (k * 5 + 1), none⟩) hb).trans (cc 1 _ rfl); rwa [← Nat.add_assoc] at this
      have c2 : wr.cell? ⟨b, off + k * 5 + 2, none⟩ = some x := by have := (hx.cell (p := ⟨b, off + (k * 5 + 2), none⟩) hb).trans (cc 2 _ rfl); rwa [← Nat.add_assoc] at this
      have c3 : wr.cell? ⟨b, off + k * 5 + 3, none⟩ = some (.int .i64 a.n) := by have := (hx.cell (p := ⟨b, off + (k * 5 + 3), none⟩) hb).trans (cc 3 _ rfl); rwa [← Nat.add_assoc] at this
      have c4 : wr.cell? ⟨b, off + k * 5 + 4, none⟩ = some (.int .i64 a.keep) := by have := (hx.cell (p := ⟨b, off + (k * 5 + 4), none⟩) hb).trans (cc 4 _ rfl); rwa [← Nat.add_assoc] at this
      have hin := HL.out.in_ _ (List.mem_of_getElem? hget)
      dsimp only at hin
      obtain ⟨Ad, cd, hv, _, _, _, _⟩ := hin.1.open_
      subst hv
      have HIN := Lib.hid hin
      have HGET := Lib.hid hget
      have hstep := actsP_step hget (Dk.fresh 1048576)
      dsimp only at hstep
      have HLA := HLI.out.2 _ (List.mem_of_getElem? hget)
      dsimp only at HLA
      obtain ⟨d, hd⟩ : ∃ d, d = actsP (l.take k) (Dk.fresh 1048576) := ⟨_, rfl⟩
      have hok : d.Ok := hd ▸ actsP_ok (fresh_ok (by decide))
      have hsm : d.SmallC (l.take k).length := hd ▸ actsP_small (fresh_small 1048576) (fun p hp => by have := (HL.out.in_ p (List.mem_of_mem_take hp)).2.2.2.1.2; omega)
      rw [← hd] at HP hstep
      have HDO := Lib.hid (do_box HP.out (ext_alloc wr (.cells #[.int .i64 a.kind, .string ⟨a.name.toArray⟩, .slice Ad a.data.length cd, .int .i64 a.n, .int .i64 a.keep] 44)) hok hsm (by have := HLI.out.1; rw [List.length_take]; omega) hx.size a hin.2.1 HLA.2 (hin.1.ext (hx.trans (ext_alloc wr (.cells #[.int .i64 a.kind, .string ⟨a.name.toArray⟩, .slice Ad a.data.length cd, .int .i64 a.n, .int .i64 a.keep] 44)))) (data_low hin.1))
      have HOK := Lib.hid (actD_ok hok a)
      obtain ⟨d', hd'⟩ : ∃ d', d' = actD d a := ⟨_, rfl⟩
      rw [← hd'] at HDO HOK hstep
      have HSTEP := Lib.hid hstep
      have HNL := Lib.hid hin.2.1
      unfold strV at HDO
      clear hc cc hin hget hx hstep hok hsm hd hd' HLA
      unfold strV at c1
      go_wp2_with fail
      refine HDO.out.mono ?_
      rintro e w7 ⟨rfl, hk7, hp7⟩
      have hbox := (BlkT.new wr #[.int .i64 a.kind, .string ⟨a.name.toArray⟩, .slice Ad a.data.length cd, .int .i64 a.n, .int .i64 a.keep] 44).kb hk7 (fun h => by have := h.2; omega)
      have HX7 := Lib.hid (hk7.ext (HX.out.trans (ext_alloc wr (.cells #[.int .i64 a.kind, .string ⟨a.name.toArray⟩, .slice Ad a.data.length cd, .int .i64 a.n, .int .i64 a.keep] 44))) (fun b hb => hb.1))
      have HBOX := Lib.hid hbox
      have HP7 := Lib.hid hp7
      go_wp2_with fail
      go_roundw
      case rel => exact ⟨k + 1, by omega, by simp, HSTEP.out ▸ HP7.out, HX7.out⟩
      case measure => simp [intOf]; omega
    · obtain rfl : k = l.length := by omega
      rw [List.take_length] at HP
      have HPW := Lib.hid (Pair.dpower HP.out)
      go_wp2_with fail
      refine HPW.out.mono ?_
      rintro e w6 ⟨rfl, hk6, hp6⟩
      have HX6 := Lib.hid (hk6.ext HX.out (fun b hb => hb))
      have HSZ := Lib.hid (HX6.out.size)
      have HRW := Lib.hid (Pair.rpower hp6 (fun k hk => Nat.le_trans HSZ.out hk))
      clear hk6 hp6
      go_wp2_with fail
      refine HRW.out.mono ?_
      rintro e w7 ⟨rfl, hk7, hp7⟩
      have HX7 := Lib.hid (hk7.ext HX6.out (fun b hb => hb))
      have HP7 := Lib.hid (show PairZ W.heap.size bd br (madeD l) w7 from hp7)
      clear hk7 hp7
      go_wp2_with fail
      go_ret3
      exact ⟨bd, br, rfl, HP7.out, HX7.out⟩
end Go.Proofs.Ytkejoiknnigllaa
