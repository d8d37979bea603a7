/-
  The walks of layer 6, the sixth part: Get.
-/
import Derived.Test.YtacabcpjaadijaaDoorVecBytesC
namespace Go.Proofs.YtacabcpjaadijaaDoor
open Go.RowKit Mono Num
set_option linter.unusedSimpArgs false
set_option linter.unusedVariables false
def getV (r : (Int × Int) × Nat × Nat) : Value := .tuple #[vecV r.1.1 r.1.2, .int .i64 (r.2.1 : Int), .int .i64 (r.2.2 : Int)]
set_option maxHeartbeats 800000 in
theorem vecGet_any (v : Value) (l : List UInt8) (w : World) (hv : Bs w v l) :
    Calls Tryd.prog 70 #[v] w fun e w' => e = .returned (getV (vget l)) ∧ Ext w w' := by
  obtain ⟨A, c, rfl, h1, h2, h3, _⟩ := hv.open_
  unfold maxLen at h2
  go_enter Tryd.func70, Tryd.ntmps70
  go_wp2_with fail
  have bo := Blk.new (w) #[.int .i64 0, .int .i64 0] 29
  have hx : Ext w (((w).alloc (.cells #[.int .i64 0, .int .i64 0] 29))) := ext_alloc _ _
  obtain ⟨n, hnn⟩ : ∃ n, n = w.heap.size := ⟨_, rfl⟩
  rw [← hnn] at bo ⊢
  have HN := Lib.hid hnn
  clear hnn
  generalize ((w).alloc (.cells #[.int .i64 0, .int .i64 0] 29)) = W at *
  have hv1 := hv.ext hx
  have hG := numGet_any _ l _ hv1
  by_cases he : (nget l).2.2 = 0
  · obtain ⟨hk1, hk2, hx1⟩ := nget_room' l he
    have HB := Lib.hid (show vget l = vget2 (nget l).1 (nget l).2.1 (nget (l.drop (nget l).2.1)) by unfold vget; rw [if_pos he])
    rw [he] at hG
    clear he
    generalize (nget l).1 = x at *
    generalize (nget l).2.1 = k at *
    have HGG := Lib.hid hG
    clear hG hv1
    refine wp_loop_rounds 3 ?_; rw [rounds_succ]
    go_wp2_with fail
    refine HGG.out.mono ?_
    rintro e w1 ⟨rfl, rfl⟩
    clear HGG
    have boc0 := bo.cell (i := 0) rfl
    have boz0 := bo.thaw 0
    have boc1 := bo.cell (i := 1) rfl
    have boz1 := bo.thaw 1
    go_wp2_with fail
    replace hx := hx.setCell (p := ⟨n, 0, none⟩) (Nat.le_of_eq HN.out.symm) (.int .i64 (x : Int))
    replace bo := bo.set 0 (.int .i64 (x : Int))
    simp only [List.set_cons_zero, List.set_cons_succ] at bo
    clear boc0 boc1 boz0 boz1
    generalize W.setCell ⟨n, 0, none⟩ (.int .i64 (x : Int)) = W1 at *
    have hx : Ext w W1 := hx
    have hv2 := hv.ext hx
    have hkc : k ≤ c := by omega
    by_cases hck : k = c
    · subst hck
      have hd := hv2.from_ hk2
      rw [if_pos rfl, show l.length - k = 0 by omega, Nat.sub_self] at hd
      have hG2 := numGet_any _ _ _ hd
      have HG2 := Lib.hid hG2
      clear hG2 hd
      rw [rounds_succ]
      go_wp2_with fail
      refine HG2.out.mono ?_
      rintro e w2 ⟨rfl, rfl⟩
      have hroom : (nget (l.drop k)).2.2 = 0 → (nget (l.drop k)).2.1 ≤ l.length - k := fun h => by have := nget_room' _ h; rw [List.length_drop] at this; exact this.2.1
      generalize nget (l.drop k) = g at *
      obtain ⟨y, j, f⟩ := g
      dsimp only
      by_cases hf : f = 0
      · subst hf
        have HJ := Lib.hid (hroom rfl)
        clear hroom
        have boc0 := bo.cell (i := 0) rfl
        have boz0 := bo.thaw 0
        have boc1 := bo.cell (i := 1) rfl
        have boz1 := bo.thaw 1
        go_wp2_with fail
        clear boc0 boc1 boz0 boz1
        replace hx := hx.setCell (p := ⟨n, 1, none⟩) (Nat.le_of_eq HN.out.symm) (.int .i64 (y : Int))
        replace bo := bo.set 1 (.int .i64 (y : Int))
        simp only [List.set_cons_zero, List.set_cons_succ] at bo
        generalize W1.setCell ⟨n, 1, none⟩ (.int .i64 (y : Int)) = W2 at *
        rw [rounds_succ]
        have boc0 := bo.cell (i := 0) rfl
        have boz0 := bo.thaw 0
        have boc1 := bo.cell (i := 1) rfl
        have boz1 := bo.thaw 1
        go_wp2_with fail
        refine (vecGood_any x y _).mono ?_
        rintro e w3 ⟨rfl, he3⟩
        replace hx := Ext.trans hx he3
        replace bo := bo.ext he3
        clear boc0 boc1 boz0 boz1
        have boc0 := bo.cell (i := 0) rfl
        have boz0 := bo.thaw 0
        have boc1 := bo.cell (i := 1) rfl
        have boz1 := bo.thaw 1
        cases hg : vgood x y
        · have HV := Lib.hid (show vget l = ((0, 0), 0, 11) by rw [HB.out]; simp [vget2, hg])
          clear hg
          go_wp2_with fail
          have bo2 := (bo.set 0 (.int .i64 (0))).set 1 (.int .i64 (0))
          have d0 := bo2.cell (i := 0) rfl
          have d1 := bo2.cell (i := 1) rfl
          have G1 : w.heap.size ≤ n := by have := HN.out; omega
          exact bodyPost_ret (v := .tuple #[.agg #[.int .i64 (0), .int .i64 (0)], .int .i64 0, .int .i64 11]) (by simp [results, Tryd.results70, d0, d1, go_sem]) rfl ⟨by (rw [HV.out]; try rfl), (hx.setCell G1 _).setCell G1 _⟩
        · have HV := Lib.hid (show vget l = (((x : Int), (y : Int)), k + j, 0) by rw [HB.out]; simp [vget2, hg])
          clear hg
          go_wp2_with fail
          have HJ2 := HJ.out
          rw [IntWalk.wrap64_in _ ⟨by omega, by omega⟩]
          have bo2 := (bo.set 0 (.int .i64 (x))).set 1 (.int .i64 (y))
          have d0 := bo2.cell (i := 0) rfl
          have d1 := bo2.cell (i := 1) rfl
          have G1 : w.heap.size ≤ n := by have := HN.out; omega
          exact bodyPost_ret (v := .tuple #[.agg #[.int .i64 (x), .int .i64 (y)], .int .i64 ((k : Int) + (j : Int)), .int .i64 0]) (by simp [results, Tryd.results70, d0, d1, go_sem]) rfl ⟨by (rw [HV.out]; try rfl), (hx.setCell G1 _).setCell G1 _⟩
      · have HV := Lib.hid (show vget l = ((0, 0), 0, f) by rw [HB.out]; simp [vget2, hf])
        have boc0 := bo.cell (i := 0) rfl
        have boz0 := bo.thaw 0
        have boc1 := bo.cell (i := 1) rfl
        have boz1 := bo.thaw 1
        go_wp2_with fail
        have bo2 := (bo.set 0 (.int .i64 (0))).set 1 (.int .i64 (0))
        have d0 := bo2.cell (i := 0) rfl
        have d1 := bo2.cell (i := 1) rfl
        have G1 : w.heap.size ≤ n := by have := HN.out; omega
        exact bodyPost_ret (v := .tuple #[.agg #[.int .i64 (0), .int .i64 (0)], .int .i64 0, .int .i64 f]) (by simp [results, Tryd.results70, d0, d1, go_sem]) rfl ⟨by (rw [HV.out]; try rfl), (hx.setCell G1 _).setCell G1 _⟩
    · have hd := hv2.from_ hk2
      rw [if_neg (fun h => hck h.symm)] at hd
      have hG2 := numGet_any _ _ _ hd
      have HG2 := Lib.hid hG2
      clear hG2 hd
      rw [rounds_succ]
      go_wp2_with fail
      refine HG2.out.mono ?_
      rintro e w2 ⟨rfl, rfl⟩
      have hroom : (nget (l.drop k)).2.2 = 0 → (nget (l.drop k)).2.1 ≤ l.length - k := fun h => by have := nget_room' _ h; rw [List.length_drop] at this; exact this.2.1
      generalize nget (l.drop k) = g at *
      obtain ⟨y, j, f⟩ := g
      dsimp only
      by_cases hf : f = 0
      · subst hf
        have HJ := Lib.hid (hroom rfl)
        clear hroom
        have boc0 := bo.cell (i := 0) rfl
        have boz0 := bo.thaw 0
        have boc1 := bo.cell (i := 1) rfl
        have boz1 := bo.thaw 1
        go_wp2_with fail
        clear boc0 boc1 boz0 boz1
        replace hx := hx.setCell (p := ⟨n, 1, none⟩) (Nat.le_of_eq HN.out.symm) (.int .i64 (y : Int))
        replace bo := bo.set 1 (.int .i64 (y : Int))
        simp only [List.set_cons_zero, List.set_cons_succ] at bo
        generalize W1.setCell ⟨n, 1, none⟩ (.int .i64 (y : Int)) = W2 at *
        rw [rounds_succ]
        have boc0 := bo.cell (i := 0) rfl
        have boz0 := bo.thaw 0
        have boc1 := bo.cell (i := 1) rfl
        have boz1 := bo.thaw 1
        go_wp2_with fail
        refine (vecGood_any x y _).mono ?_
        rintro e w3 ⟨rfl, he3⟩
        replace hx := Ext.trans hx he3
        replace bo := bo.ext he3
        clear boc0 boc1 boz0 boz1
        have boc0 := bo.cell (i := 0) rfl
        have boz0 := bo.thaw 0
        have boc1 := bo.cell (i := 1) rfl
        have boz1 := bo.thaw 1
        cases hg : vgood x y
        · have HV := Lib.hid (show vget l = ((0, 0), 0, 11) by rw [HB.out]; simp [vget2, hg])
          clear hg
          go_wp2_with fail
          have bo2 := (bo.set 0 (.int .i64 (0))).set 1 (.int .i64 (0))
          have d0 := bo2.cell (i := 0) rfl
          have d1 := bo2.cell (i := 1) rfl
          have G1 : w.heap.size ≤ n := by have := HN.out; omega
          exact bodyPost_ret (v := .tuple #[.agg #[.int .i64 (0), .int .i64 (0)], .int .i64 0, .int .i64 11]) (by simp [results, Tryd.results70, d0, d1, go_sem]) rfl ⟨by (rw [HV.out]; try rfl), (hx.setCell G1 _).setCell G1 _⟩
        · have HV := Lib.hid (show vget l = (((x : Int), (y : Int)), k + j, 0) by rw [HB.out]; simp [vget2, hg])
          clear hg
          go_wp2_with fail
          have HJ2 := HJ.out
          rw [IntWalk.wrap64_in _ ⟨by omega, by omega⟩]
          have bo2 := (bo.set 0 (.int .i64 (x))).set 1 (.int .i64 (y))
          have d0 := bo2.cell (i := 0) rfl
          have d1 := bo2.cell (i := 1) rfl
          have G1 : w.heap.size ≤ n := by have := HN.out; omega
          exact bodyPost_ret (v := .tuple #[.agg #[.int .i64 (x), .int .i64 (y)], .int .i64 ((k : Int) + (j : Int)), .int .i64 0]) (by simp [results, Tryd.results70, d0, d1, go_sem]) rfl ⟨by (rw [HV.out]; try rfl), (hx.setCell G1 _).setCell G1 _⟩
      · have HV := Lib.hid (show vget l = ((0, 0), 0, f) by rw [HB.out]; simp [vget2, hf])
        have boc0 := bo.cell (i := 0) rfl
        have boz0 := bo.thaw 0
        have boc1 := bo.cell (i := 1) rfl
        have boz1 := bo.thaw 1
        go_wp2_with fail
        have bo2 := (bo.set 0 (.int .i64 (0))).set 1 (.int .i64 (0))
        have d0 := bo2.cell (i := 0) rfl
        have d1 := bo2.cell (i := 1) rfl
        have G1 : w.heap.size ≤ n := by have := HN.out; omega
        exact bodyPost_ret (v := .tuple #[.agg #[.int .i64 (0), .int .i64 (0)], .int .i64 0, .int .i64 f]) (by simp [results, Tryd.results70, d0, d1, go_sem]) rfl ⟨by (rw [HV.out]; try rfl), (hx.setCell G1 _).setCell G1 _⟩
  · have HV := Lib.hid (show vget l = ((0, 0), 0, (nget l).2.2) by unfold vget; rw [if_neg he])
    generalize nget l = g at *
    obtain ⟨y, j, f⟩ := g
    dsimp only at *
    have HGG := Lib.hid hG
    clear hG hv1
    refine wp_loop_rounds 3 ?_; rw [rounds_succ]
    go_wp2_with fail
    refine HGG.out.mono ?_
    rintro e w1 ⟨rfl, rfl⟩
    have boc0 := bo.cell (i := 0) rfl
    have boz0 := bo.thaw 0
    have boc1 := bo.cell (i := 1) rfl
    have boz1 := bo.thaw 1
    go_wp2_with fail
    have bo2 := (bo.set 0 (.int .i64 (0))).set 1 (.int .i64 (0))
    have d0 := bo2.cell (i := 0) rfl
    have d1 := bo2.cell (i := 1) rfl
    have G1 : w.heap.size ≤ n := by have := HN.out; omega
    exact bodyPost_ret (v := .tuple #[.agg #[.int .i64 (0), .int .i64 (0)], .int .i64 0, .int .i64 f]) (by simp [results, Tryd.results70, d0, d1, go_sem]) rfl ⟨by (rw [HV.out]; try rfl), (hx.setCell G1 _).setCell G1 _⟩

set_option maxHeartbeats 800000 in
theorem ref6Get_any (v : Value) (l : List UInt8) (w : World) (hv : Bs w v l) :
    Calls Tryd.prog 92 #[v] w fun e w' => e = .returned (getV (vget l)) ∧ Ext w w' := by
  obtain ⟨A, c, rfl, h1, h2, h3, _⟩ := hv.open_
  unfold maxLen at h2
  go_enter Tryd.func92, Tryd.ntmps92
  go_wp2_with fail
  have bo := Blk.new (w) #[.int .i64 0, .int .i64 0] 29
  have hx : Ext w (((w).alloc (.cells #[.int .i64 0, .int .i64 0] 29))) := ext_alloc _ _
  obtain ⟨n, hnn⟩ : ∃ n, n = w.heap.size := ⟨_, rfl⟩
  rw [← hnn] at bo ⊢
  have HN := Lib.hid hnn
  clear hnn
  generalize ((w).alloc (.cells #[.int .i64 0, .int .i64 0] 29)) = W at *
  have hv1 := hv.ext hx
  have hG := refGet_any _ l _ hv1
  by_cases he : (nget l).2.2 = 0
  · obtain ⟨hk1, hk2, hx1⟩ := nget_room' l he
    have HB := Lib.hid (show vget l = vget2 (nget l).1 (nget l).2.1 (nget (l.drop (nget l).2.1)) by unfold vget; rw [if_pos he])
    rw [he] at hG
    clear he
    generalize (nget l).1 = x at *
    generalize (nget l).2.1 = k at *
    have HGG := Lib.hid hG
    clear hG
    refine HGG.out.mono ?_
    rintro e w1 ⟨rfl, rfl⟩
    clear HGG
    have hkc : k ≤ c := by omega
    by_cases hck : k = c
    · subst hck
      have hd := hv1.from_ hk2
      rw [if_pos rfl, show l.length - k = 0 by omega, Nat.sub_self] at hd
      have HG2 := Lib.hid (refGet_any _ _ _ hd)
      clear hd
      go_wp2_with fail
      refine HG2.out.mono ?_
      rintro e w2 ⟨rfl, rfl⟩
      have hroom : (nget (l.drop k)).2.2 = 0 → (nget (l.drop k)).2.1 ≤ l.length - k := fun h => by have := nget_room' _ h; rw [List.length_drop] at this; exact this.2.1
      generalize nget (l.drop k) = g at *
      obtain ⟨y, j, f⟩ := g
      dsimp only
      by_cases hf : f = 0
      · subst hf
        have HJ := Lib.hid (hroom rfl)
        clear hroom HG2
        go_wp2_with fail
        refine (refVGood_any x y _).mono ?_
        rintro e w3 ⟨rfl, he3⟩
        have b11 := (Blk.new W #[.int .i64 (x : Int), .int .i64 (y : Int)] 29).ext he3
        replace hx := Ext.trans hx (Ext.trans (ext_alloc _ _) he3)
        replace bo := (bo.ext (ext_alloc _ _)).ext he3
        obtain ⟨n11, hn11⟩ : ∃ m, m = W.heap.size := ⟨_, rfl⟩
        rw [← hn11] at b11 ⊢
        clear hn11 he3
        have b11c0 := b11.cell (i := 0) rfl
        have b11z0 := b11.thaw 0
        have b11c1 := b11.cell (i := 1) rfl
        have b11z1 := b11.thaw 1
        have boc0 := bo.cell (i := 0) rfl
        have boz0 := bo.thaw 0
        have boc1 := bo.cell (i := 1) rfl
        have boz1 := bo.thaw 1
        cases hg : vgood x y
        · have HV := Lib.hid (show vget l = ((0, 0), 0, 11) by rw [HB.out]; simp [vget2, hg])
          clear hg
          go_wp2_with fail
          have bo2 := (bo.set 0 (.int .i64 (0))).set 1 (.int .i64 (0))
          have d0 := bo2.cell (i := 0) rfl
          have d1 := bo2.cell (i := 1) rfl
          have G1 : w.heap.size ≤ n := by have := HN.out; omega
          exact bodyPost_ret (v := .tuple #[.agg #[.int .i64 (0), .int .i64 (0)], .int .i64 0, .int .i64 11]) (by simp [results, Tryd.results92, d0, d1, go_sem]) rfl ⟨by (rw [HV.out]; try rfl), (hx.setCell G1 _).setCell G1 _⟩
        · have HV := Lib.hid (show vget l = (((x : Int), (y : Int)), k + j, 0) by rw [HB.out]; simp [vget2, hg])
          clear hg
          go_wp2_with fail
          have HJ2 := HJ.out
          rw [IntWalk.wrap64_in _ ⟨by omega, by omega⟩]
          have bo2 := (bo.set 0 (.int .i64 (x))).set 1 (.int .i64 (y))
          have d0 := bo2.cell (i := 0) rfl
          have d1 := bo2.cell (i := 1) rfl
          have G1 : w.heap.size ≤ n := by have := HN.out; omega
          exact bodyPost_ret (v := .tuple #[.agg #[.int .i64 (x), .int .i64 (y)], .int .i64 ((k : Int) + (j : Int)), .int .i64 0]) (by simp [results, Tryd.results92, d0, d1, go_sem]) rfl ⟨by (rw [HV.out]; try rfl), (hx.setCell G1 _).setCell G1 _⟩
      · have HV := Lib.hid (show vget l = ((0, 0), 0, f) by rw [HB.out]; simp [vget2, hf])
        clear HG2 hroom
        have boc0 := bo.cell (i := 0) rfl
        have boz0 := bo.thaw 0
        have boc1 := bo.cell (i := 1) rfl
        have boz1 := bo.thaw 1
        go_wp2_with fail
        have bo2 := (bo.set 0 (.int .i64 (0))).set 1 (.int .i64 (0))
        have d0 := bo2.cell (i := 0) rfl
        have d1 := bo2.cell (i := 1) rfl
        have G1 : w.heap.size ≤ n := by have := HN.out; omega
        exact bodyPost_ret (v := .tuple #[.agg #[.int .i64 (0), .int .i64 (0)], .int .i64 0, .int .i64 f]) (by simp [results, Tryd.results92, d0, d1, go_sem]) rfl ⟨by (rw [HV.out]; try rfl), (hx.setCell G1 _).setCell G1 _⟩
    · have hd := hv1.from_ hk2
      rw [if_neg (fun h => hck h.symm)] at hd
      have HG2 := Lib.hid (refGet_any _ _ _ hd)
      clear hd
      go_wp2_with fail
      refine HG2.out.mono ?_
      rintro e w2 ⟨rfl, rfl⟩
      have hroom : (nget (l.drop k)).2.2 = 0 → (nget (l.drop k)).2.1 ≤ l.length - k := fun h => by have := nget_room' _ h; rw [List.length_drop] at this; exact this.2.1
      generalize nget (l.drop k) = g at *
      obtain ⟨y, j, f⟩ := g
      dsimp only
      by_cases hf : f = 0
      · subst hf
        have HJ := Lib.hid (hroom rfl)
        clear hroom HG2
        go_wp2_with fail
        refine (refVGood_any x y _).mono ?_
        rintro e w3 ⟨rfl, he3⟩
        have b11 := (Blk.new W #[.int .i64 (x : Int), .int .i64 (y : Int)] 29).ext he3
        replace hx := Ext.trans hx (Ext.trans (ext_alloc _ _) he3)
        replace bo := (bo.ext (ext_alloc _ _)).ext he3
        obtain ⟨n11, hn11⟩ : ∃ m, m = W.heap.size := ⟨_, rfl⟩
        rw [← hn11] at b11 ⊢
        clear hn11 he3
        have b11c0 := b11.cell (i := 0) rfl
        have b11z0 := b11.thaw 0
        have b11c1 := b11.cell (i := 1) rfl
        have b11z1 := b11.thaw 1
        have boc0 := bo.cell (i := 0) rfl
        have boz0 := bo.thaw 0
        have boc1 := bo.cell (i := 1) rfl
        have boz1 := bo.thaw 1
        cases hg : vgood x y
        · have HV := Lib.hid (show vget l = ((0, 0), 0, 11) by rw [HB.out]; simp [vget2, hg])
          clear hg
          go_wp2_with fail
          have bo2 := (bo.set 0 (.int .i64 (0))).set 1 (.int .i64 (0))
          have d0 := bo2.cell (i := 0) rfl
          have d1 := bo2.cell (i := 1) rfl
          have G1 : w.heap.size ≤ n := by have := HN.out; omega
          exact bodyPost_ret (v := .tuple #[.agg #[.int .i64 (0), .int .i64 (0)], .int .i64 0, .int .i64 11]) (by simp [results, Tryd.results92, d0, d1, go_sem]) rfl ⟨by (rw [HV.out]; try rfl), (hx.setCell G1 _).setCell G1 _⟩
        · have HV := Lib.hid (show vget l = (((x : Int), (y : Int)), k + j, 0) by rw [HB.out]; simp [vget2, hg])
          clear hg
          go_wp2_with fail
          have HJ2 := HJ.out
          rw [IntWalk.wrap64_in _ ⟨by omega, by omega⟩]
          have bo2 := (bo.set 0 (.int .i64 (x))).set 1 (.int .i64 (y))
          have d0 := bo2.cell (i := 0) rfl
          have d1 := bo2.cell (i := 1) rfl
          have G1 : w.heap.size ≤ n := by have := HN.out; omega
          exact bodyPost_ret (v := .tuple #[.agg #[.int .i64 (x), .int .i64 (y)], .int .i64 ((k : Int) + (j : Int)), .int .i64 0]) (by simp [results, Tryd.results92, d0, d1, go_sem]) rfl ⟨by (rw [HV.out]; try rfl), (hx.setCell G1 _).setCell G1 _⟩
      · have HV := Lib.hid (show vget l = ((0, 0), 0, f) by rw [HB.out]; simp [vget2, hf])
        clear HG2 hroom
        have boc0 := bo.cell (i := 0) rfl
        have boz0 := bo.thaw 0
        have boc1 := bo.cell (i := 1) rfl
        have boz1 := bo.thaw 1
        go_wp2_with fail
        have bo2 := (bo.set 0 (.int .i64 (0))).set 1 (.int .i64 (0))
        have d0 := bo2.cell (i := 0) rfl
        have d1 := bo2.cell (i := 1) rfl
        have G1 : w.heap.size ≤ n := by have := HN.out; omega
        exact bodyPost_ret (v := .tuple #[.agg #[.int .i64 (0), .int .i64 (0)], .int .i64 0, .int .i64 f]) (by simp [results, Tryd.results92, d0, d1, go_sem]) rfl ⟨by (rw [HV.out]; try rfl), (hx.setCell G1 _).setCell G1 _⟩
  · have HV := Lib.hid (show vget l = ((0, 0), 0, (nget l).2.2) by unfold vget; rw [if_neg he])
    generalize nget l = g at *
    obtain ⟨y, j, f⟩ := g
    dsimp only at *
    have HGG := Lib.hid hG
    clear hG hv1
    refine HGG.out.mono ?_
    rintro e w1 ⟨rfl, rfl⟩
    clear HGG
    have boc0 := bo.cell (i := 0) rfl
    have boz0 := bo.thaw 0
    have boc1 := bo.cell (i := 1) rfl
    have boz1 := bo.thaw 1
    go_wp2_with fail
    have bo2 := (bo.set 0 (.int .i64 (0))).set 1 (.int .i64 (0))
    have d0 := bo2.cell (i := 0) rfl
    have d1 := bo2.cell (i := 1) rfl
    have G1 : w.heap.size ≤ n := by have := HN.out; omega
    exact bodyPost_ret (v := .tuple #[.agg #[.int .i64 (0), .int .i64 (0)], .int .i64 0, .int .i64 f]) (by simp [results, Tryd.results92, d0, d1, go_sem]) rfl ⟨by (rw [HV.out]; try rfl), (hx.setCell G1 _).setCell G1 _⟩
end Go.Proofs.YtacabcpjaadijaaDoor
