/-
  Layer 15: the statement of DiskRefused: the walk.
-/
import Derived.Test.YtkejoiknnigllaaDkLight
import Derived.Test.YtkejoiknnigllaaDkLives
namespace Go.Proofs.Ytkejoiknnigllaa
open Go Go.RowKit Mono Go.Sort
open Go.Maps (Keyed has size)
set_option linter.unusedVariables false
set_option linter.unusedSimpArgs false
set_option maxRecDepth 100000
set_option maxHeartbeats 2000000

theorem names_low {z bd bm pl : Nat} {W : World} {d : Dk} {ms : List FilM} (h : DkM z W bd bm pl d ms) (hok : d.Ok) :
    Calls Try.prog 21 #[.pointer (some ⟨bd, 0, none⟩)] W fun e w' => ∃ v, e = .returned v ∧ Ss w' v (d.fs.map fun f => f.name) ∧ Ext W w' ∧ ∀ j, v.ownBlock = some j → W.heap.size ≤ j := by
  obtain ⟨n, D, hown, hmap⟩ := h.map
  obtain ⟨i0, hi, hi2⟩ : ∃ i, Try.prog.info? 9 = some i ∧ (i.zero, i.size, i.bytes) = (some (.string ⟨#[]⟩), 1, 16) := by
    have := infoStr
    cases h : Try.prog.info? 9 with
    | none => rw [h] at this; cases this
    | some i => rw [h] at this; exact ⟨i, rfl, by simpa using this⟩
  obtain ⟨hz0, hz1, hz2⟩ : i0.zero = some (.string ⟨#[]⟩) ∧ i0.size = 1 ∧ i0.bytes = 16 := by simpa using hi2
  have k1 := h.str.blk.cell (i := 1) rfl
  have HNA := Lib.hid (names_apart h hok)
  have HFS := Lib.hid h.fs
  have HOK := Lib.hid hok
  have HMAP := Lib.hid hmap
  have HI := Lib.hid hi
  have HZ0 := Lib.hid hz0
  have HZ1 := Lib.hid hz1
  have HZ2 := Lib.hid hz2
  have hfew : size D ≤ 64 := by rw [hmap.size_, show ms.length = d.fs.length by rw [← h.fs]; simp]; exact hok.few
  have hbm : bm < W.heap.size := hown.lt
  clear hmap h hi2 hi hz0 hz1 hz2 hok
  go_enter Try.func21, Try.ntmps21
  go_wp2_with (first
    | (at_range; refine wpList_range_own _ rfl _ 58 rfl 9 67 keyS Try.underlying58 ptrR bm n D rfl hown ?_; intro w0 hrg0 hg0 hs0)
    | go_in)
  go_frame
  clear hs0 k1
  go_loopw [2] (fun v wr => ∃ (left : Lit → Bool) (cnt : Nat) (ss : List (List UInt8)), wr.ranges Try.prog 9 ptrR bm W.heap.size n D left cnt ∧ ss.length + cnt ≤ size D ∧
      wr.ownsRow W.heap.size 9 1 v ss.length (ss.map encStr) ∧ Collected D left ss ∧ Ext W wr) (fun _ wr => wr.rangeLeft bm W.heap.size)
  case atStart =>
    exact ⟨_, _, [], hrg0, by simp, World.ownsRow_nil _ _ _ _, Collected.start D, ⟨hg0.os, hg0.tape, hg0.output, hg0.size, fun k hk => hg0.block k hk (by simp)⟩⟩
  case round =>
    obtain ⟨left, cnt, ss, hrg, hcs, hrow, hC, hx⟩ := hrel
    have HRG := Lib.hid hrg
    have HX := Lib.hid hx
    have HC := Lib.hid hC
    clear hx hC
    go_wp2_with (first
      | (at_next; refine wpList_next_ranges _ rfl _ rfl 9 keyS ptrR encStr ptrM (fun key kl hk => by obtain ⟨x, hx, _⟩ := keyS_shape hk; exact ⟨x, hx⟩) (fun v y hv => ptrR_shape hv) bm W.heap.size n D left cnt rfl hrg ?_ ?_)
      | go_in)
    · intro hc0 hl0
      have hperm := names_perm HMAP.out HNA.out HC.out hl0
      have hfsn : (ms.map fun m => m.name) = d.fs.map fun f => f.name := by rw [← HFS.out]; simp [FilM.fil]
      rw [hfsn] at hperm
      have hms := mergeSort_of_perm hperm
      rw [names_sorted HOK.out] at hms
      have HMS := Lib.hid hms
      have hlen : (d.fs.map fun f => f.name).length = ss.length := hperm.length_eq.symm
      have HLEN := Lib.hid hlen
      clear hms hperm hfsn hlen
      rcases hrow.2 with ⟨rfl, hn⟩ | ⟨g, cap, cur, rfl, hbase, hb, h1, h2, h3, h4⟩
      · have hse : ss = [] := List.eq_nil_of_length_eq_zero hn
        subst hse
        have HS := Lib.hid (Try.sort_Strings_none none 0 wr)
        clear hn hrow
        go_wp2_with fail
        refine HS.out.mono ?_
        rintro e w' ⟨rfl, rfl⟩
        go_wp2_with fail
        go_ret
        refine ⟨_, rfl, ?_, HX.out, fun j hj => by cases hj⟩
        have : (d.fs.map fun f => f.name) = [] := List.eq_nil_of_length_eq_zero (by rw [HLEN.out]; rfl)
        rw [this]
        exact Sl.nil_ _
      · have hH : Holds encStr wr g 0 ss.toArray := holds_of_block hb (by simpa using h4)
        have hgl : g < wr.heap.size := (Array.getElem?_eq_some_iff.1 hb).1
        have HS := Lib.hid (Try.sort_Strings g 0 cap ss wr hH hgl (by omega))
        have HR := Lib.hid (fun (nn : Nat) (os : Array Obj) => ownsRow_sorted (n := nn) (os := os) (ts := ss.mergeSort fun x y => decide (x ≤ y)) (ss := ss) (by simp) hbase hb h1 h2 h3)
        clear hH hgl h4 hrow hb
        go_wp2_with fail
        refine HS.out.mono ?_
        rintro e w' ⟨rfl, nn, os, rfl⟩
        go_wp2_with fail
        go_ret
        refine ⟨_, rfl, ?_, ?_, fun j hj => (World.ownsRow.lt (HR.out nn os) j hj).1⟩
        · have hr := HR.out nn os
          have he : (ss.mergeSort fun x y => decide (x ≤ y)) = d.fs.map fun f => f.name := HMS.out
          rw [he] at hr
          have hl : ss.length = (d.fs.map fun f => f.name).length := HLEN.out.symm
          rw [hl] at hr
          refine ss_of_row (base := W.heap.size) (e := 9) ?_
          rw [he, hl]
          exact hr
        · have hg := grownBy_sorted (w := wr) (g := g) (n := nn) (os := os) (ss.mergeSort fun x y => decide (x ≤ y)).toArray
          exact ⟨hg.os.trans HX.out.os, hg.tape.trans HX.out.tape, hg.output.trans HX.out.output, Nat.le_trans HX.out.size hg.size, fun k hk => (hg.block k (Nat.lt_of_lt_of_le hk HX.out.size) (by simp; omega)).trans (HX.out.block k hk)⟩
    · intro x c kl yd yp w2 cnt2 hkey hlk hv hat hrg2 hlt hg2 hs2 hen
      obtain ⟨x', ex, rfl, _⟩ := keyS_shape hkey
      obtain rfl : x = x' := encStr_inj ex
      have hrow2 := hrow.kept hg2 (Or.inr (row_ne_iter hrow HRG.out).symm)
      clear hs2
      have hszz := HX.out.size
      clear ex hkey
      go_wp2_with (first
        | (at_builtin; refine wpList_append_own _ rfl (.tmp 15) (.tmp 17) 45 rfl W.heap.size 9 i0 (.string ⟨#[]⟩) 1 16 Try.underlying45 HI.out HZ0.out HZ1.out HZ2.out rfl (by decide) _ _ _ rfl (hrow2.alloc _) ⟨w2.heap.size, 0, none⟩ 1 1 [encStr x] rfl rfl (cell_one_new _ _ _) (by simp [Value.oneCell', encStr]) (by unfold maxLen; omega) (by omega) (by have := hg2.size; simp; omega) ?_; intro v' w3 hown' hg3 hnil3; go_frame)
        | go_in)
      have hrg3 := (hrg2.alloc _).kept hg3 (row_ne_low hrow2 hbm) (row_ne_iter hrow2 hrg2)
      go_roundw
      case rel =>
        refine ⟨_, cnt2, ss ++ [x], hrg3, by simp; omega, by simpa using hown', HC.out.step hlk hat, ?_⟩
        have hlow := fun j (hj : _ = some j) => (hrow2.lt j hj).1
        have e1 : Ext W w2 := ⟨hg2.os.trans HX.out.os, hg2.tape.trans HX.out.tape, hg2.output.trans HX.out.output, Nat.le_trans HX.out.size hg2.size, fun k hk => (hg2.block k (Nat.lt_of_lt_of_le hk HX.out.size) (by simp; omega)).trans (HX.out.block k hk)⟩
        have e2 := e1.trans (ext_alloc w2 (.cells #[encStr x] 9))
        refine ⟨hg3.os.trans e2.os, hg3.tape.trans e2.tape, hg3.output.trans e2.output, Nat.le_trans e2.size hg3.size, fun k hk => (hg3.block k (Nat.lt_of_lt_of_le hk e2.size) (fun e => ?_)).trans (e2.block k hk)⟩
        have := hlow k e.symm
        omega
      case measure => rw [hrg3.left_eq, HRG.out.left_eq]; exact hlt

theorem Ss.kb {fp : Nat → Prop} {W W' : World} {v : Value} {l : List (List UInt8)} (h : Ss W v l) (k : Kb fp W W') (hn : ∀ j, v.ownBlock = some j → ¬ fp j) : Ss W' v l := by
  obtain ⟨A, c, hv, h1, h2, h3, h4⟩ := h
  refine ⟨A, c, hv, h1, h2, h3, fun h0 => ?_⟩
  obtain ⟨b, off, hA, hb, hc⟩ := h4 h0
  refine ⟨b, off, hA, Nat.lt_of_lt_of_le hb k.size, fun i x hx => ?_⟩
  rw [← hc i x hx]
  exact World.cell?_of_block (k.block b hb (hn b (by rw [hv, hA]; rfl)))
/-- Without a plan: done and counted, or refused and as it was. -/
def Fine (d : Dk) (x : Dk × Nat) : Prop := (x.2 = 0 ∧ x.1.ops = d.ops + 1 ∨ x.2 ≠ 0 ∧ x.1 = d) ∧ x.1.plan = none ∧ x.1.room = d.room
theorem fine_no {d : Dk} (hp : d.plan = none) {e : Nat} (he : e ≠ 0) : Fine d (d, e) := ⟨.inr ⟨he, rfl⟩, hp, rfl⟩
theorem fine_count {d d0 : Dk} (hp : d0.plan = none) (ho : d0.ops = d.ops) (hr : d0.room = d.room) (act : Dk → Dk) (h1 : ∀ d, (act d).ops = d.ops) (h2 : ∀ d, (act d).plan = d.plan) (h3 : ∀ d, (act d).room = d.room) : Fine d (d0.count act) := by
  unfold Dk.count
  rw [hp]
  exact ⟨.inl ⟨rfl, by rw [h1]; show d0.ops + 1 = _; rw [ho]⟩, by rw [h2], by rw [h3]; exact hr⟩
theorem fine_Make {d : Dk} (hp : d.plan = none) (s : List UInt8) : Fine d (dMake d s) := by
  unfold dMake
  repeat' split
  all_goals first | exact fine_no hp (by decide) | exact fine_count hp rfl rfl _ (fun _ => rfl) (fun _ => rfl) (fun _ => rfl)
theorem fine_Append {d : Dk} (hp : d.plan = none) (s b : List UInt8) : Fine d (dAppend d s b) := by
  unfold dAppend
  repeat' split
  all_goals first | exact fine_no hp (by decide) | exact fine_count hp rfl rfl id (fun _ => rfl) (fun _ => rfl) (fun _ => rfl) | exact fine_count (d := d) (d0 := d.upd s fun f => { f with b := f.b ++ b }) hp rfl rfl id (fun _ => rfl) (fun _ => rfl) (fun _ => rfl)
theorem fine_Sync {d : Dk} (hp : d.plan = none) (s : List UInt8) : Fine d (dSync d s) := by
  unfold dSync
  repeat' split
  all_goals first | exact fine_no hp (by decide) | exact fine_count hp rfl rfl _ (fun _ => rfl) (fun _ => rfl) (fun _ => rfl)
theorem fine_Cut {d : Dk} (hp : d.plan = none) (s : List UInt8) (n : Int) : Fine d (dCut d s n) := by
  unfold dCut
  repeat' split
  all_goals first | exact fine_no hp (by decide) | exact fine_count hp rfl rfl _ (fun _ => rfl) (fun _ => rfl) (fun _ => rfl)
theorem fine_Drop {d : Dk} (hp : d.plan = none) (s : List UInt8) : Fine d (dDrop d s) := by
  unfold dDrop
  repeat' split
  all_goals first | exact fine_no hp (by decide) | exact fine_count hp rfl rfl _ (fun _ => rfl) (fun _ => rfl) (fun _ => rfl)
/-- The program's disk of a round. -/
structure OneD (z bd : Nat) (d : Dk) (k : Nat) (W : World) : Prop where
  dk : ∃ bm pl ms, DkM z W bd bm pl d ms
  ok : d.Ok
  small : d.SmallC k
  plan : d.plan = none
  room : d.room = 300
theorem OneD.next {z bd k : Nat} {d : Dk} {x : Dk × Nat} {W0 W w' : World} {bm pl : Nat} {ms : List FilM} (h : OneD z bd d k W0) (hf : Fine d x) (hok : x.1.Ok) (hg : Dk.Grow d x.1) (hs : ∃ pl' ms', DkS z W w' bd bm pl d ms pl' x.1 ms') : OneD z bd x.1 (k + 1) w' := by
  obtain ⟨pl', ms', hs⟩ := hs
  exact ⟨⟨_, _, _, hs.dk⟩, hok, h.small.grow hg, hf.2.1, hf.2.2.trans h.room⟩

theorem diskRefused_walk (v : Value) (l : List (Act × Value)) (W : World) (hl : As W v l) :
    Calls Try.prog 4 #[v] W fun e w' => e = .returned (.bool true) ∧ Ext W w' := by
  obtain ⟨A, c, rfl, g1, g2, g4⟩ := hl.at_
  have HL := Lib.hid hl
  have H4 := Lib.hid g4
  have HLT := Lib.hid (light_any _ l W hl)
  unfold maxLen at g2
  clear g4 hl
  go_enter Try.func4, Try.ntmps4
  go_wp2_with fail
  refine HLT.out.mono ?_
  rintro e w0 ⟨⟨q, rfl, hq⟩, hx0⟩
  cases q
  · have HLV := Lib.hid (lives_any w0)
    go_wp2_with fail
    refine HLV.out.mono ?_
    rintro e w6 ⟨rfl, hx⟩
    go_wp2_with fail
    go_ret
    exact ⟨rfl, hx0.trans hx⟩
  · have HLI := Lib.hid (hq rfl)
    have HN : Calls Try.prog 20 #[.int .i64 300] w0 _ := dkNew_any 300 w0 (by decide)
    have HNH := Lib.hid HN
    have HX0 := Lib.hid hx0
    clear HN hq hx0 HLT
    go_wp2_with fail
    refine HNH.out.mono ?_
    rintro e w1 ⟨rfl, hx1, hd1⟩
    obtain ⟨z, hz⟩ : ∃ z, z = w0.heap.size := ⟨_, rfl⟩
    obtain ⟨bd, hbd⟩ : ∃ b, b = w0.heap.size + 1 := ⟨_, rfl⟩
    rw [← hbd, ← hz] at hd1
    rw [← hbd]
    have HZ := Lib.hid hz
    have HX1 := Lib.hid hx1
    have HO1 := Lib.hid (show OneD z bd (Dk.fresh 300) 0 w1 from ⟨⟨_, _, _, hd1⟩, fresh_ok (by decide), fresh_small 300, rfl, rfl⟩)
    clear hbd hz hx1 hd1 HNH
    go_wp2_with fail
    go_loopw [20] (fun i wr => ∃ (k : Nat) (d : Dk), k ≤ l.length ∧ i = .int .i64 k ∧ OneD z bd d k wr ∧ Ext w0 wr) (fun i _ => l.length - (intOf i).toNat)
    case atStart => exact ⟨0, _, by omega, rfl, HO1.out, HX1.out⟩
    case round =>
      obtain ⟨k, d, hk, rfl, ho, hx⟩ := hrel
      have HO := Lib.hid ho
      have HX := Lib.hid hx
      by_cases hkl : k < l.length
      · obtain ⟨b, off, rfl, hb, hc⟩ := H4.out (by omega)
        obtain ⟨⟨a, x⟩, hget⟩ : ∃ p, l[k]? = some p := ⟨_, List.getElem?_eq_getElem hkl⟩
        obtain ⟨kd, nm, da, an, ak⟩ := a
        have cc := hc k _ hget
        have hxx := HX0.out.trans hx
        have c0 : wr.cell? ⟨b, off + k * 5, none⟩ = some (.int .i64 kd) := by have := (hxx.cell (p := ⟨b, off + (k * 5 + 0), none⟩) hb).trans (cc 0 _ rfl); rwa [← Nat.add_assoc] at this
        have c1 : wr.cell? ⟨b, off + k * 5 + 1, none⟩ = some (strV nm) := by have := (hxx.cell (p := ⟨b, off + (k * 5 + 1), none⟩) hb).trans (cc 1 _ rfl); rwa [← Nat.add_assoc] at this
        have c2 : wr.cell? ⟨b, off + k * 5 + 2, none⟩ = some x := by have := (hxx.cell (p := ⟨b, off + (k * 5 + 2), none⟩) hb).trans (cc 2 _ rfl); rwa [← Nat.add_assoc] at this
        have c3 : wr.cell? ⟨b, off + k * 5 + 3, none⟩ = some (.int .i64 an) := by have := (hxx.cell (p := ⟨b, off + (k * 5 + 3), none⟩) hb).trans (cc 3 _ rfl); rwa [← Nat.add_assoc] at this
        have c4 : wr.cell? ⟨b, off + k * 5 + 4, none⟩ = some (.int .i64 ak) := by have := (hxx.cell (p := ⟨b, off + (k * 5 + 4), none⟩) hb).trans (cc 4 _ rfl); rwa [← Nat.add_assoc] at this
        have hin := HL.out.in_ _ (List.mem_of_getElem? hget)
        dsimp only at hin
        obtain ⟨Ad, cd, hv, _, _, _, _⟩ := hin.1.open_
        subst hv
        have HIN := Lib.hid hin
        have HDA := Lib.hid (hin.1.ext (hxx.trans (ext_alloc wr (.cells #[.int .i64 kd, .string ⟨nm.toArray⟩, .slice Ad da.length cd, .int .i64 an, .int .i64 ak] 44))))
        have HSM := Lib.hid (ho.small.small (by have := HLI.out.1; omega))
        obtain ⟨bm, pl, ms, hdk⟩ := ho.dk
        have hdb := hdk.ext (ext_alloc wr (.cells #[.int .i64 kd, .string ⟨nm.toArray⟩, .slice Ad da.length cd, .int .i64 an, .int .i64 ak] 44))
        have HDK := Lib.hid hdk
        have HDB := Lib.hid hdb
        have HNM := Lib.hid (names_low hdb ho.ok)
        have HUS := Lib.hid (fun w (he : Ext _ w) => used_any (hdb.ext he))
        have HOP := Lib.hid (fun w (he : Ext _ w) => ops_any (hdb.ext he))
        have HON := Lib.hid (fun w (he : Ext _ w) => on_any (hdb.ext he))
        have hbx := (BlkT.new wr #[.int .i64 kd, .string ⟨nm.toArray⟩, .slice Ad da.length cd, .int .i64 an, .int .i64 ak] 44)
        have HBX := Lib.hid hbx
        have hcn := HSM.out.cnt
        have HZR := Lib.hid (show z ≤ wr.heap.size from by rw [HZ.out]; exact hx.size)
        clear hc cc hin hget hx hxx ho hdk hdb hbx
        unfold strV at c1
        go_wp2_with fail
        refine HNM.out.mono ?_
        rintro e w2 ⟨vn, rfl, hss, hx2, hlow⟩
        have HSS := Lib.hid hss
        have HX2 := Lib.hid hx2
        have HLOW := Lib.hid hlow
        clear hss hx2 hlow c0 c1 c2 c3 c4 HNM
        go_wp2_with fail
        refine (HUS.out _ HX2.out).mono ?_
        rintro e w3 ⟨rfl, rfl⟩
        go_wp2_with fail
        refine (HOP.out _ HX2.out).mono ?_
        rintro e w3 ⟨rfl, rfl⟩
        go_wp2_with fail
        refine (HON.out _ HX2.out).mono ?_
        rintro e w3 ⟨rfl, rfl⟩
        have kb := (HBX.out.ext HX2.out).blk
        have k0 := kb.cell (i := 0) rfl
        have k1 := kb.cell (i := 1) rfl
        have k2 := kb.cell (i := 2) rfl
        have k3 := kb.cell (i := 3) rfl
        have HD2 := Lib.hid (HDB.out.ext HX2.out)
        have HDA2 := Lib.hid (HDA.out.ext HX2.out)
        have HZ2 := Lib.hid (show z ≤ w3.heap.size from Nat.le_trans HZR.out ((ext_alloc wr (.cells #[.int .i64 kd, .string ⟨nm.toArray⟩, .slice Ad da.length cd, .int .i64 an, .int .i64 ak] 44)).trans HX2.out).size)
        clear kb HUS HOP HON HDA
        by_cases h0 : kd = 0
        · subst h0
          have HC := Lib.hid (make_any HD2.out HO.out.ok HSM.out HZ2.out nm HIN.out.2.1)
          unfold strV at HC
          go_wp2_with fail
          refine HC.out.mono ?_
          rintro e w4 ⟨pl', ms', rfl, hs⟩
          have hf := fine_Make HO.out.plan nm
          have hok4 := dMake_ok HO.out.ok nm
          have hgr := dMake_grow d nm
          obtain ⟨x, hxx⟩ : ∃ x, x = dMake d nm := ⟨_, rfl⟩
          rw [← hxx] at hs hf hok4 hgr ⊢
          have HO4 := Lib.hid (HO.out.next hf hok4 hgr ⟨_, _, hs⟩)
          have HKS := Lib.hid (HSS.out.kb hs.kb (fun j hj hd => by
            have h1 := HLOW.out j hj
            have h2 := HDK.out.lt j hd
            rw [World.size_alloc] at h1
            omega))
          have HX4 := Lib.hid (hs.kb.ext ((HX.out.trans (ext_alloc wr (.cells #[.int .i64 0, .string ⟨nm.toArray⟩, .slice Ad da.length cd, .int .i64 an, .int .i64 ak] 44))).trans HX2.out) (fun b hb => by rw [← HZ.out]; exact HD2.out.lowall b hb))
          have hus : (x.1.used : Int) ≤ 300 := by have h1 := HO4.out.ok.used; have h2 := HO4.out.room; omega
          obtain ⟨bm4, pl4, ms4, hdk4⟩ := HO4.out.dk
          have HU4 := Lib.hid (used_any hdk4)
          have hop4 := ops_any hdk4
          have HDK4 := Lib.hid hdk4
          obtain ⟨d4, e4⟩ := x
          dsimp only at *
          rcases hf.1 with ⟨f1, f2⟩ | ⟨f1, f2⟩
          · rw [f2] at hop4
            have hcast : ((d.ops + 1 : Nat) : Int) = (d.ops : Int) + 1 := by omega
            rw [hcast] at hop4
            have HOP4 := Lib.hid hop4
            have hq : (((d.ops : Int) + 1) != ((d.ops : Int) + 1)) = false := by simp
            dsimp only at f1
            subst f1
            clear hop4 hf hok4 hgr hxx hs hdk4 f2 hcast k0 k1 k2 k3 HC
            go_wp2_with fail
            refine HU4.out.mono ?_
            rintro e w5 ⟨rfl, rfl⟩
            go_wp2_with fail
            refine HOP4.out.mono ?_
            rintro e w5 ⟨rfl, rfl⟩
            go_wp2_with fail
            go_roundw
            case rel => exact ⟨k + 1, _, by omega, by simp, HO4.out, HX4.out⟩
            case measure => simp [intOf]; omega
          · dsimp only at f1 f2
            subst f2
            have he1 : (((e4 : Nat) : Int) == 0) = false := by simp; omega
            have he2 : (((e4 : Nat) : Int) != 0) = true := by simp; omega
            have he3 : ¬ ((e4 : Nat) : Int) = 0 := by omega
            have hq1 : ((d4.used : Int) != (d4.used : Int)) = false := by simp
            have hq2 : ((d4.ops : Int) != (d4.ops : Int)) = false := by simp
            have hq3 : (d4.on != d4.on) = false := by simp
            have HNM4 := Lib.hid (names_any hdk4 HO4.out.ok)
            clear hop4 hf hok4 hgr hxx hs hdk4 f1 k0 k1 k2 k3 HC
            go_wp2_with fail
            refine HU4.out.mono ?_
            rintro e w5 ⟨rfl, rfl⟩
            go_wp2_with fail
            refine HNM4.out.mono ?_
            rintro e w6 ⟨v6, rfl, hss6, hx6⟩
            have HX6 := Lib.hid (HX4.out.trans hx6)
            have HT := Lib.hid (texts_any hss6 (HKS.out.ext hx6))
            have HDK6 := Lib.hid (HDK4.out.ext hx6)
            clear hss6 hx6
            go_wp2_with fail
            refine HT.out.mono ?_
            rintro e w7 ⟨rfl, hx7⟩
            have HX7 := Lib.hid (HX6.out.trans hx7)
            have HDK7 := Lib.hid (HDK6.out.ext hx7)
            have HU7 := Lib.hid (used_any HDK7.out)
            have HO7 := Lib.hid (ops_any HDK7.out)
            have HN7 := Lib.hid (on_any HDK7.out)
            clear hx7
            go_wp2_with fail
            refine HU7.out.mono ?_
            rintro e w8 ⟨rfl, rfl⟩
            go_wp2_with fail
            refine HO7.out.mono ?_
            rintro e w8 ⟨rfl, rfl⟩
            go_wp2_with fail
            refine HN7.out.mono ?_
            rintro e w8 ⟨rfl, rfl⟩
            go_wp2_with fail
            go_roundw
            case rel => exact ⟨k + 1, _, by omega, by simp, ⟨⟨_, _, _, HDK7.out⟩, HO4.out.ok, HO4.out.small, HO4.out.plan, HO4.out.room⟩, HX7.out⟩
            case measure => simp [intOf]; omega
        by_cases h1 : kd = 1
        · subst h1
          have HC := Lib.hid (append_any HD2.out HO.out.ok HSM.out HZ2.out nm HIN.out.2.1 HDA2.out)
          unfold strV at HC
          go_wp2_with fail
          refine HC.out.mono ?_
          rintro e w4 ⟨pl', ms', rfl, hs⟩
          have hf := fine_Append HO.out.plan nm da
          have hok4 := dAppend_ok HO.out.ok nm da
          have hgr := dAppend_grow d nm da
          obtain ⟨x, hxx⟩ : ∃ x, x = dAppend d nm da := ⟨_, rfl⟩
          rw [← hxx] at hs hf hok4 hgr ⊢
          have HO4 := Lib.hid (HO.out.next hf hok4 hgr ⟨_, _, hs⟩)
          have HKS := Lib.hid (HSS.out.kb hs.kb (fun j hj hd => by
            have h1 := HLOW.out j hj
            have h2 := HDK.out.lt j hd
            rw [World.size_alloc] at h1
            omega))
          have HX4 := Lib.hid (hs.kb.ext ((HX.out.trans (ext_alloc wr (.cells #[.int .i64 1, .string ⟨nm.toArray⟩, .slice Ad da.length cd, .int .i64 an, .int .i64 ak] 44))).trans HX2.out) (fun b hb => by rw [← HZ.out]; exact HD2.out.lowall b hb))
          have hus : (x.1.used : Int) ≤ 300 := by have h1 := HO4.out.ok.used; have h2 := HO4.out.room; omega
          obtain ⟨bm4, pl4, ms4, hdk4⟩ := HO4.out.dk
          have HU4 := Lib.hid (used_any hdk4)
          have hop4 := ops_any hdk4
          have HDK4 := Lib.hid hdk4
          obtain ⟨d4, e4⟩ := x
          dsimp only at *
          rcases hf.1 with ⟨f1, f2⟩ | ⟨f1, f2⟩
          · rw [f2] at hop4
            have hcast : ((d.ops + 1 : Nat) : Int) = (d.ops : Int) + 1 := by omega
            rw [hcast] at hop4
            have HOP4 := Lib.hid hop4
            have hq : (((d.ops : Int) + 1) != ((d.ops : Int) + 1)) = false := by simp
            dsimp only at f1
            subst f1
            clear hop4 hf hok4 hgr hxx hs hdk4 f2 hcast k0 k1 k2 k3 HC
            go_wp2_with fail
            refine HU4.out.mono ?_
            rintro e w5 ⟨rfl, rfl⟩
            go_wp2_with fail
            refine HOP4.out.mono ?_
            rintro e w5 ⟨rfl, rfl⟩
            go_wp2_with fail
            go_roundw
            case rel => exact ⟨k + 1, _, by omega, by simp, HO4.out, HX4.out⟩
            case measure => simp [intOf]; omega
          · dsimp only at f1 f2
            subst f2
            have he1 : (((e4 : Nat) : Int) == 0) = false := by simp; omega
            have he2 : (((e4 : Nat) : Int) != 0) = true := by simp; omega
            have he3 : ¬ ((e4 : Nat) : Int) = 0 := by omega
            have hq1 : ((d4.used : Int) != (d4.used : Int)) = false := by simp
            have hq2 : ((d4.ops : Int) != (d4.ops : Int)) = false := by simp
            have hq3 : (d4.on != d4.on) = false := by simp
            have HNM4 := Lib.hid (names_any hdk4 HO4.out.ok)
            clear hop4 hf hok4 hgr hxx hs hdk4 f1 k0 k1 k2 k3 HC
            go_wp2_with fail
            refine HU4.out.mono ?_
            rintro e w5 ⟨rfl, rfl⟩
            go_wp2_with fail
            refine HNM4.out.mono ?_
            rintro e w6 ⟨v6, rfl, hss6, hx6⟩
            have HX6 := Lib.hid (HX4.out.trans hx6)
            have HT := Lib.hid (texts_any hss6 (HKS.out.ext hx6))
            have HDK6 := Lib.hid (HDK4.out.ext hx6)
            clear hss6 hx6
            go_wp2_with fail
            refine HT.out.mono ?_
            rintro e w7 ⟨rfl, hx7⟩
            have HX7 := Lib.hid (HX6.out.trans hx7)
            have HDK7 := Lib.hid (HDK6.out.ext hx7)
            have HU7 := Lib.hid (used_any HDK7.out)
            have HO7 := Lib.hid (ops_any HDK7.out)
            have HN7 := Lib.hid (on_any HDK7.out)
            clear hx7
            go_wp2_with fail
            refine HU7.out.mono ?_
            rintro e w8 ⟨rfl, rfl⟩
            go_wp2_with fail
            refine HO7.out.mono ?_
            rintro e w8 ⟨rfl, rfl⟩
            go_wp2_with fail
            refine HN7.out.mono ?_
            rintro e w8 ⟨rfl, rfl⟩
            go_wp2_with fail
            go_roundw
            case rel => exact ⟨k + 1, _, by omega, by simp, ⟨⟨_, _, _, HDK7.out⟩, HO4.out.ok, HO4.out.small, HO4.out.plan, HO4.out.room⟩, HX7.out⟩
            case measure => simp [intOf]; omega
        by_cases h2 : kd = 2
        · subst h2
          have HC := Lib.hid (sync_any HD2.out HO.out.ok HSM.out HZ2.out nm HIN.out.2.1)
          unfold strV at HC
          go_wp2_with fail
          refine HC.out.mono ?_
          rintro e w4 ⟨pl', ms', rfl, hs⟩
          have hf := fine_Sync HO.out.plan nm
          have hok4 := dSync_ok HO.out.ok nm
          have hgr := dSync_grow d nm
          obtain ⟨x, hxx⟩ : ∃ x, x = dSync d nm := ⟨_, rfl⟩
          rw [← hxx] at hs hf hok4 hgr ⊢
          have HO4 := Lib.hid (HO.out.next hf hok4 hgr ⟨_, _, hs⟩)
          have HKS := Lib.hid (HSS.out.kb hs.kb (fun j hj hd => by
            have h1 := HLOW.out j hj
            have h2 := HDK.out.lt j hd
            rw [World.size_alloc] at h1
            omega))
          have HX4 := Lib.hid (hs.kb.ext ((HX.out.trans (ext_alloc wr (.cells #[.int .i64 2, .string ⟨nm.toArray⟩, .slice Ad da.length cd, .int .i64 an, .int .i64 ak] 44))).trans HX2.out) (fun b hb => by rw [← HZ.out]; exact HD2.out.lowall b hb))
          have hus : (x.1.used : Int) ≤ 300 := by have h1 := HO4.out.ok.used; have h2 := HO4.out.room; omega
          obtain ⟨bm4, pl4, ms4, hdk4⟩ := HO4.out.dk
          have HU4 := Lib.hid (used_any hdk4)
          have hop4 := ops_any hdk4
          have HDK4 := Lib.hid hdk4
          obtain ⟨d4, e4⟩ := x
          dsimp only at *
          rcases hf.1 with ⟨f1, f2⟩ | ⟨f1, f2⟩
          · rw [f2] at hop4
            have hcast : ((d.ops + 1 : Nat) : Int) = (d.ops : Int) + 1 := by omega
            rw [hcast] at hop4
            have HOP4 := Lib.hid hop4
            have hq : (((d.ops : Int) + 1) != ((d.ops : Int) + 1)) = false := by simp
            dsimp only at f1
            subst f1
            clear hop4 hf hok4 hgr hxx hs hdk4 f2 hcast k0 k1 k2 k3 HC
            go_wp2_with fail
            refine HU4.out.mono ?_
            rintro e w5 ⟨rfl, rfl⟩
            go_wp2_with fail
            refine HOP4.out.mono ?_
            rintro e w5 ⟨rfl, rfl⟩
            go_wp2_with fail
            go_roundw
            case rel => exact ⟨k + 1, _, by omega, by simp, HO4.out, HX4.out⟩
            case measure => simp [intOf]; omega
          · dsimp only at f1 f2
            subst f2
            have he1 : (((e4 : Nat) : Int) == 0) = false := by simp; omega
            have he2 : (((e4 : Nat) : Int) != 0) = true := by simp; omega
            have he3 : ¬ ((e4 : Nat) : Int) = 0 := by omega
            have hq1 : ((d4.used : Int) != (d4.used : Int)) = false := by simp
            have hq2 : ((d4.ops : Int) != (d4.ops : Int)) = false := by simp
            have hq3 : (d4.on != d4.on) = false := by simp
            have HNM4 := Lib.hid (names_any hdk4 HO4.out.ok)
            clear hop4 hf hok4 hgr hxx hs hdk4 f1 k0 k1 k2 k3 HC
            go_wp2_with fail
            refine HU4.out.mono ?_
            rintro e w5 ⟨rfl, rfl⟩
            go_wp2_with fail
            refine HNM4.out.mono ?_
            rintro e w6 ⟨v6, rfl, hss6, hx6⟩
            have HX6 := Lib.hid (HX4.out.trans hx6)
            have HT := Lib.hid (texts_any hss6 (HKS.out.ext hx6))
            have HDK6 := Lib.hid (HDK4.out.ext hx6)
            clear hss6 hx6
            go_wp2_with fail
            refine HT.out.mono ?_
            rintro e w7 ⟨rfl, hx7⟩
            have HX7 := Lib.hid (HX6.out.trans hx7)
            have HDK7 := Lib.hid (HDK6.out.ext hx7)
            have HU7 := Lib.hid (used_any HDK7.out)
            have HO7 := Lib.hid (ops_any HDK7.out)
            have HN7 := Lib.hid (on_any HDK7.out)
            clear hx7
            go_wp2_with fail
            refine HU7.out.mono ?_
            rintro e w8 ⟨rfl, rfl⟩
            go_wp2_with fail
            refine HO7.out.mono ?_
            rintro e w8 ⟨rfl, rfl⟩
            go_wp2_with fail
            refine HN7.out.mono ?_
            rintro e w8 ⟨rfl, rfl⟩
            go_wp2_with fail
            go_roundw
            case rel => exact ⟨k + 1, _, by omega, by simp, ⟨⟨_, _, _, HDK7.out⟩, HO4.out.ok, HO4.out.small, HO4.out.plan, HO4.out.room⟩, HX7.out⟩
            case measure => simp [intOf]; omega
        by_cases h3 : kd = 3
        · subst h3
          have HC := Lib.hid (cut_any HD2.out HO.out.ok HSM.out HZ2.out nm HIN.out.2.1 an)
          unfold strV at HC
          go_wp2_with fail
          refine HC.out.mono ?_
          rintro e w4 ⟨pl', ms', rfl, hs⟩
          have hf := fine_Cut HO.out.plan nm an
          have hok4 := dCut_ok HO.out.ok nm an
          have hgr := dCut_grow d nm an
          obtain ⟨x, hxx⟩ : ∃ x, x = dCut d nm an := ⟨_, rfl⟩
          rw [← hxx] at hs hf hok4 hgr ⊢
          have HO4 := Lib.hid (HO.out.next hf hok4 hgr ⟨_, _, hs⟩)
          have HKS := Lib.hid (HSS.out.kb hs.kb (fun j hj hd => by
            have h1 := HLOW.out j hj
            have h2 := HDK.out.lt j hd
            rw [World.size_alloc] at h1
            omega))
          have HX4 := Lib.hid (hs.kb.ext ((HX.out.trans (ext_alloc wr (.cells #[.int .i64 3, .string ⟨nm.toArray⟩, .slice Ad da.length cd, .int .i64 an, .int .i64 ak] 44))).trans HX2.out) (fun b hb => by rw [← HZ.out]; exact HD2.out.lowall b hb))
          have hus : (x.1.used : Int) ≤ 300 := by have h1 := HO4.out.ok.used; have h2 := HO4.out.room; omega
          obtain ⟨bm4, pl4, ms4, hdk4⟩ := HO4.out.dk
          have HU4 := Lib.hid (used_any hdk4)
          have hop4 := ops_any hdk4
          have HDK4 := Lib.hid hdk4
          obtain ⟨d4, e4⟩ := x
          dsimp only at *
          rcases hf.1 with ⟨f1, f2⟩ | ⟨f1, f2⟩
          · rw [f2] at hop4
            have hcast : ((d.ops + 1 : Nat) : Int) = (d.ops : Int) + 1 := by omega
            rw [hcast] at hop4
            have HOP4 := Lib.hid hop4
            have hq : (((d.ops : Int) + 1) != ((d.ops : Int) + 1)) = false := by simp
            dsimp only at f1
            subst f1
            clear hop4 hf hok4 hgr hxx hs hdk4 f2 hcast k0 k1 k2 k3 HC
            go_wp2_with fail
            refine HU4.out.mono ?_
            rintro e w5 ⟨rfl, rfl⟩
            go_wp2_with fail
            refine HOP4.out.mono ?_
            rintro e w5 ⟨rfl, rfl⟩
            go_wp2_with fail
            go_roundw
            case rel => exact ⟨k + 1, _, by omega, by simp, HO4.out, HX4.out⟩
            case measure => simp [intOf]; omega
          · dsimp only at f1 f2
            subst f2
            have he1 : (((e4 : Nat) : Int) == 0) = false := by simp; omega
            have he2 : (((e4 : Nat) : Int) != 0) = true := by simp; omega
            have he3 : ¬ ((e4 : Nat) : Int) = 0 := by omega
            have hq1 : ((d4.used : Int) != (d4.used : Int)) = false := by simp
            have hq2 : ((d4.ops : Int) != (d4.ops : Int)) = false := by simp
            have hq3 : (d4.on != d4.on) = false := by simp
            have HNM4 := Lib.hid (names_any hdk4 HO4.out.ok)
            clear hop4 hf hok4 hgr hxx hs hdk4 f1 k0 k1 k2 k3 HC
            go_wp2_with fail
            refine HU4.out.mono ?_
            rintro e w5 ⟨rfl, rfl⟩
            go_wp2_with fail
            refine HNM4.out.mono ?_
            rintro e w6 ⟨v6, rfl, hss6, hx6⟩
            have HX6 := Lib.hid (HX4.out.trans hx6)
            have HT := Lib.hid (texts_any hss6 (HKS.out.ext hx6))
            have HDK6 := Lib.hid (HDK4.out.ext hx6)
            clear hss6 hx6
            go_wp2_with fail
            refine HT.out.mono ?_
            rintro e w7 ⟨rfl, hx7⟩
            have HX7 := Lib.hid (HX6.out.trans hx7)
            have HDK7 := Lib.hid (HDK6.out.ext hx7)
            have HU7 := Lib.hid (used_any HDK7.out)
            have HO7 := Lib.hid (ops_any HDK7.out)
            have HN7 := Lib.hid (on_any HDK7.out)
            clear hx7
            go_wp2_with fail
            refine HU7.out.mono ?_
            rintro e w8 ⟨rfl, rfl⟩
            go_wp2_with fail
            refine HO7.out.mono ?_
            rintro e w8 ⟨rfl, rfl⟩
            go_wp2_with fail
            refine HN7.out.mono ?_
            rintro e w8 ⟨rfl, rfl⟩
            go_wp2_with fail
            go_roundw
            case rel => exact ⟨k + 1, _, by omega, by simp, ⟨⟨_, _, _, HDK7.out⟩, HO4.out.ok, HO4.out.small, HO4.out.plan, HO4.out.room⟩, HX7.out⟩
            case measure => simp [intOf]; omega
        by_cases h4 : kd = 4
        · subst h4
          have HC := Lib.hid (drop_any HD2.out HO.out.ok HSM.out HZ2.out nm HIN.out.2.1)
          unfold strV at HC
          go_wp2_with fail
          refine HC.out.mono ?_
          rintro e w4 ⟨pl', ms', rfl, hs⟩
          have hf := fine_Drop HO.out.plan nm
          have hok4 := dDrop_ok HO.out.ok nm
          have hgr := dDrop_grow d nm
          obtain ⟨x, hxx⟩ : ∃ x, x = dDrop d nm := ⟨_, rfl⟩
          rw [← hxx] at hs hf hok4 hgr ⊢
          have HO4 := Lib.hid (HO.out.next hf hok4 hgr ⟨_, _, hs⟩)
          have HKS := Lib.hid (HSS.out.kb hs.kb (fun j hj hd => by
            have h1 := HLOW.out j hj
            have h2 := HDK.out.lt j hd
            rw [World.size_alloc] at h1
            omega))
          have HX4 := Lib.hid (hs.kb.ext ((HX.out.trans (ext_alloc wr (.cells #[.int .i64 4, .string ⟨nm.toArray⟩, .slice Ad da.length cd, .int .i64 an, .int .i64 ak] 44))).trans HX2.out) (fun b hb => by rw [← HZ.out]; exact HD2.out.lowall b hb))
          have hus : (x.1.used : Int) ≤ 300 := by have h1 := HO4.out.ok.used; have h2 := HO4.out.room; omega
          obtain ⟨bm4, pl4, ms4, hdk4⟩ := HO4.out.dk
          have HU4 := Lib.hid (used_any hdk4)
          have hop4 := ops_any hdk4
          have HDK4 := Lib.hid hdk4
          obtain ⟨d4, e4⟩ := x
          dsimp only at *
          rcases hf.1 with ⟨f1, f2⟩ | ⟨f1, f2⟩
          · rw [f2] at hop4
            have hcast : ((d.ops + 1 : Nat) : Int) = (d.ops : Int) + 1 := by omega
            rw [hcast] at hop4
            have HOP4 := Lib.hid hop4
            have hq : (((d.ops : Int) + 1) != ((d.ops : Int) + 1)) = false := by simp
            dsimp only at f1
            subst f1
            clear hop4 hf hok4 hgr hxx hs hdk4 f2 hcast k0 k1 k2 k3 HC
            go_wp2_with fail
            refine HU4.out.mono ?_
            rintro e w5 ⟨rfl, rfl⟩
            go_wp2_with fail
            refine HOP4.out.mono ?_
            rintro e w5 ⟨rfl, rfl⟩
            go_wp2_with fail
            go_roundw
            case rel => exact ⟨k + 1, _, by omega, by simp, HO4.out, HX4.out⟩
            case measure => simp [intOf]; omega
          · dsimp only at f1 f2
            subst f2
            have he1 : (((e4 : Nat) : Int) == 0) = false := by simp; omega
            have he2 : (((e4 : Nat) : Int) != 0) = true := by simp; omega
            have he3 : ¬ ((e4 : Nat) : Int) = 0 := by omega
            have hq1 : ((d4.used : Int) != (d4.used : Int)) = false := by simp
            have hq2 : ((d4.ops : Int) != (d4.ops : Int)) = false := by simp
            have hq3 : (d4.on != d4.on) = false := by simp
            have HNM4 := Lib.hid (names_any hdk4 HO4.out.ok)
            clear hop4 hf hok4 hgr hxx hs hdk4 f1 k0 k1 k2 k3 HC
            go_wp2_with fail
            refine HU4.out.mono ?_
            rintro e w5 ⟨rfl, rfl⟩
            go_wp2_with fail
            refine HNM4.out.mono ?_
            rintro e w6 ⟨v6, rfl, hss6, hx6⟩
            have HX6 := Lib.hid (HX4.out.trans hx6)
            have HT := Lib.hid (texts_any hss6 (HKS.out.ext hx6))
            have HDK6 := Lib.hid (HDK4.out.ext hx6)
            clear hss6 hx6
            go_wp2_with fail
            refine HT.out.mono ?_
            rintro e w7 ⟨rfl, hx7⟩
            have HX7 := Lib.hid (HX6.out.trans hx7)
            have HDK7 := Lib.hid (HDK6.out.ext hx7)
            have HU7 := Lib.hid (used_any HDK7.out)
            have HO7 := Lib.hid (ops_any HDK7.out)
            have HN7 := Lib.hid (on_any HDK7.out)
            clear hx7
            go_wp2_with fail
            refine HU7.out.mono ?_
            rintro e w8 ⟨rfl, rfl⟩
            go_wp2_with fail
            refine HO7.out.mono ?_
            rintro e w8 ⟨rfl, rfl⟩
            go_wp2_with fail
            refine HN7.out.mono ?_
            rintro e w8 ⟨rfl, rfl⟩
            go_wp2_with fail
            go_roundw
            case rel => exact ⟨k + 1, _, by omega, by simp, ⟨⟨_, _, _, HDK7.out⟩, HO4.out.ok, HO4.out.small, HO4.out.plan, HO4.out.room⟩, HX7.out⟩
            case measure => simp [intOf]; omega
        have HC := Lib.hid (power_any HD2.out)
        go_wp2_with fail
        refine HC.out.mono ?_
        rintro e w4 ⟨rfl, hd4, hk4⟩
        have HX4 := Lib.hid (hk4.ext ((HX.out.trans (ext_alloc wr (.cells #[.int .i64 kd, .string ⟨nm.toArray⟩, .slice Ad da.length cd, .int .i64 an, .int .i64 ak] 44))).trans HX2.out) (fun b hb => by rw [← HZ.out, hb]; exact HD2.out.zd))
        have HO4 := Lib.hid (show OneD z bd (dPower d) (k + 1) w4 from ⟨⟨_, _, _, hd4⟩, dPower_ok HO.out.ok, dPower_small HO.out.small, HO.out.plan, HO.out.room⟩)
        clear hd4 hk4 k0 k1 k2 k3 HC
        go_wp2_with fail
        go_roundw
        case rel => exact ⟨k + 1, _, by omega, by simp, HO4.out, HX4.out⟩
        case measure => simp [intOf]; omega
      · obtain rfl : k = l.length := by omega
        have HLV := Lib.hid (lives_any wr)
        go_wp2_with fail
        refine HLV.out.mono ?_
        rintro e w6 ⟨rfl, hx6⟩
        go_wp2_with fail
        go_ret
        exact ⟨rfl, (HX0.out.trans HX.out).trans hx6⟩
end Go.Proofs.Ytkejoiknnigllaa
