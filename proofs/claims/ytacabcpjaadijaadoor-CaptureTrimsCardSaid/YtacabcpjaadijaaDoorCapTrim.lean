/-
  Layer 19: the walk of capture.Trim.
-/
import Derived.Test.YtacabcpjaadijaaDoorCapRun
import Derived.Test.YtacabcpjaadijaaDoorCapNum
namespace Go.Proofs.YtacabcpjaadijaaDoor
open Go Go.RowKit Go.Shelf Mono Num
attribute [local go_sem] Oper.semAt_some
set_option linter.unusedVariables false
set_option linter.unusedSimpArgs false
set_option maxRecDepth 100000

abbrev Nte := List UInt8 × List UInt8
/-- Does a note go, once so many are answered? -/
def tgone (u : Int) (x : Nte) : Bool := decide (0 < pnumber x.1) && decide (pnumber x.1 ≤ u)
def ntV (x : Nte) : Value := .agg #[strV x.1, strV x.2]
/-- The notes that go, by their names. -/
def trimOf (l : List Nte) : List Nte := l.map fun x => (x.1, [])
theorem trimOf_snoc (l : List Nte) (x : Nte) : trimOf (l ++ [x]) = trimOf l ++ [(x.1, [])] := by unfold trimOf; simp
set_option maxHeartbeats 2000000 in
theorem trim1_any (nm tx : List UInt8) (u : Int) (B : Nat) (w : World) (hl : nm.length ≤ 9223372036854775807) (hB : w.cell? ⟨B, 0, none⟩ = some (.int .i64 u)) (hb : B < w.heap.size) :
    Calls Tryd.prog 44 #[.agg #[strV nm, strV tx], .pointer (some ⟨B, 0, none⟩)] w fun e w' => e = .returned (.bool (tgone u (nm, tx))) ∧ Ext w w' := by
  have hx := ext_alloc w (.cells #[.string ⟨nm.toArray⟩, .string ⟨tx.toArray⟩] 38)
  have HX := Lib.hid hx
  have hB2 := (hx.cell (p := ⟨B, 0, none⟩) hb).trans hB
  have HN := Lib.hid (fun w => capNumber_any nm w hl)
  have HT : Hid (tgone u (nm, tx) = (decide (0 < pnumber nm) && decide (pnumber nm ≤ u))) := Lib.hid rfl
  clear hx hl
  unfold strV at *
  go_enter Tryd.func44, Tryd.ntmps44
  go_wp2_with fail
  refine (HN.out _).mono ?_
  rintro e w' ⟨rfl, rfl⟩
  generalize pnumber nm = p at *
  by_cases h1 : 0 < p
  · by_cases h2 : p ≤ u
    · go_wp2_with fail
      go_ret
      exact ⟨by rw [HT.out]; simp [h1, h2], HX.out⟩
    · go_wp2_with fail
      go_ret
      exact ⟨by rw [HT.out]; simp [h1, h2], HX.out⟩
  · go_wp2_with fail
    go_ret
    exact ⟨by rw [HT.out]; simp [h1]; omega, HX.out⟩
theorem someN_any (A : Option Addr) (n c k B : Nat) (w : World) :
    Calls Tryd.prog 43 #[.slice A n c, .func (.func k) #[] #[.pointer (some ⟨B, 0, none⟩)]] w fun e w' => e = .returned (.func (.func 77) #[] #[.pointer (some ⟨w.heap.size, 0, none⟩), .pointer (some ⟨w.heap.size + 1, 0, none⟩)]) ∧
      w' = (w.alloc (.cells #[.slice A n c] 47)).alloc (.cells #[.func (.func k) #[] #[.pointer (some ⟨B, 0, none⟩)]] 94) := by
  have hmf : ∀ (fn : Fn) (first cap : Array Value) (w : World), (Instr.makeFunc fn first cap).run Tryd.prog w = .ok (.func fn first cap) w := fun _ _ _ _ => rfl
  go_enter Tryd.func43, Tryd.ntmps43
  go_wp2_with fail
  go_ret
  exact ⟨rfl, rfl⟩

set_option maxRecDepth 100000 in
set_option maxHeartbeats 4000000 in
theorem someTrim_any (n : Nat) (hn : 1 ≤ n) (w0 : World) (A : Option Addr) (c : Nat) (l : List Nte) (u : Int) (hs : Ns w0 (.slice A l.length c) l) (B1 B2 B3 : Nat) (w1 : World) (hx : Ext w0 w1)
    (h1 : w1.cell? ⟨B1, 0, none⟩ = some (.slice A l.length c)) (h2 : w1.cell? ⟨B2, 0, none⟩ = some (.func (.func 44) #[] #[.pointer (some ⟨B3, 0, none⟩)])) (h3 : w1.cell? ⟨B3, 0, none⟩ = some (.int .i64 u))
    (hb1 : B1 < w1.heap.size) (hb2 : B2 < w1.heap.size) (hb3 : B3 < w1.heap.size) :
    SeqW Fence.wide n Tryd.prog 77 #[.pointer (some ⟨B1, 0, none⟩), .pointer (some ⟨B2, 0, none⟩)] (fun x : Nte => #[ntV x]) (KpC w0.heap.size B1 B2 B3) (fun pre x _ => ∃ rest, l.filter (tgone u) = pre ++ x :: rest) (fun xs _ => xs = l.filter (tgone u)) (fun _ _ => True) w1 := by
  intro fl J Jx W hW hJ hJx hY h0
  have c1 : W.cell? ⟨B1, 0, none⟩ = _ := (hW.cell (p := ⟨B1, 0, none⟩) hb1).trans h1
  have c2 : W.cell? ⟨B2, 0, none⟩ = _ := (hW.cell (p := ⟨B2, 0, none⟩) hb2).trans h2
  have c3 : W.cell? ⟨B3, 0, none⟩ = _ := (hW.cell (p := ⟨B3, 0, none⟩) hb3).trans h3
  have hxW : Ext w0 W := hx.trans hW
  obtain ⟨A', c', hv', g1, g2, g3, g4⟩ := hs.at_
  injection hv' with e1 e2 e3
  subst e1 e3
  have H4 := Lib.hid g4
  have HY := Lib.hid hY
  have HJ := Lib.hid hJ
  have hbw1 : B1 < W.heap.size := Nat.lt_of_lt_of_le hb1 hW.size
  have hbw2 : B2 < W.heap.size := Nat.lt_of_lt_of_le hb2 hW.size
  have hbw3 : B3 < W.heap.size := Nat.lt_of_lt_of_le hb3 hW.size
  clear g4 hs hY hJ h1 h2 h3 hb1 hb2 hb3
  refine callsIn_of_wp Tryd.func77 rfl trivial ?_ rfl
  simp only [Tryd.ntmps77, List.size_toArray, List.length_cons, List.length_nil, Nat.reduceAdd, Nat.reduceSub, Array.replicate_succ, Array.replicate_zero, List.push_toArray, List.append_toArray, List.nil_append, List.cons_append]
  gi_wp2
  gi_loopw [8] (fun at_ wr => ∃ (k : Nat) (pre : List Nte), at_ = .int .i64 k ∧ k ≤ l.length ∧ l.filter (tgone u) = pre ++ (l.drop k).filter (tgone u) ∧ J pre wr ∧ Ext w0 wr ∧ W.heap.size ≤ wr.heap.size ∧
    wr.cell? ⟨B1, 0, none⟩ = some (.slice A l.length c) ∧ wr.cell? ⟨B2, 0, none⟩ = some (.func (.func 44) #[] #[.pointer (some ⟨B3, 0, none⟩)]) ∧ wr.cell? ⟨B3, 0, none⟩ = some (.int .i64 u)) (fun a _ => l.length - (intOf a).toNat)
  case atStart => exact ⟨0, [], rfl, Nat.zero_le _, by simp, h0, hxW, Nat.le_refl _, c1, c2, c3⟩
  case round =>
    obtain ⟨k, pre, rfl, hk, hf, hj, hxr, hsz, d1, d2, d3⟩ := hrel
    have HF := Lib.hid hf
    clear hf c1 c2 c3 h0
    by_cases hlt : k < l.length
    · obtain ⟨b, off, rfl, hb, hcell⟩ := H4.out (by omega)
      obtain ⟨nm, tx, hget, p0, p1, hnm, htx⟩ := hcell k hlt
      unfold maxLen at hnm htx
      replace p0 := (hxr.cell (p := ⟨b, off + k * 2, none⟩) hb).trans p0
      replace p1 := (hxr.cell (p := ⟨b, off + k * 2 + 1, none⟩) hb).trans p1
      have hdrop : l.drop k = (nm, tx) :: l.drop (k + 1) := by
        rw [List.drop_eq_getElem_cons hlt]
        congr 1
        exact (List.getElem?_eq_some_iff.1 hget).2
      have HD := Lib.hid hdrop
      clear hdrop hcell
      unfold strV at p0 p1
      have xa := ext_alloc wr (.cells #[.string ⟨nm.toArray⟩, .string ⟨tx.toArray⟩] 38)
      have ba := Blk.new wr #[.string ⟨nm.toArray⟩, .string ⟨tx.toArray⟩] 38
      have e1 := (xa.cell (p := ⟨B1, 0, none⟩) (Nat.lt_of_lt_of_le hbw1 hsz)).trans d1
      have e2 := (xa.cell (p := ⟨B2, 0, none⟩) (Nat.lt_of_lt_of_le hbw2 hsz)).trans d2
      have e3 := (xa.cell (p := ⟨B3, 0, none⟩) (Nat.lt_of_lt_of_le hbw3 hsz)).trans d3
      have hxa := Ext.trans hxr xa
      have hja := HJ.out pre wr _ none hj (Ext.grown' xa) (by simp)
      have hsza : W.heap.size ≤ (wr.alloc (.cells #[.string ⟨nm.toArray⟩, .string ⟨tx.toArray⟩] 38)).heap.size := by simp; omega
      have hc0 := trim1_any nm tx u B3 _ (by omega) e3 (Nat.lt_of_lt_of_le hbw3 hsza)
      unfold strV at hc0
      have HC := Lib.hid hc0
      have HX := Lib.hid hxa
      have HJA := Lib.hid hja
      have l0 := ba.cell (i := 0) rfl
      have l1 := ba.cell (i := 1) rfl
      have bl := ba.lt
      clear xa hj hxr hxa hja d1 d3 ba hc0
      gi_wp2
      refine ⟨trivial, (callsIn_wide.2 HC.out).mono ?_⟩
      rintro e w2 ⟨rfl, he⟩
      replace l0 := (he.cell (p := ⟨wr.heap.size, 0, none⟩) bl).trans l0
      replace l1 := (he.cell (p := ⟨wr.heap.size, 1, none⟩) bl).trans l1
      have g1' := (he.cell (p := ⟨B1, 0, none⟩) (Nat.lt_of_lt_of_le hbw1 hsza)).trans e1
      have g2' := (he.cell (p := ⟨B2, 0, none⟩) (Nat.lt_of_lt_of_le hbw2 hsza)).trans e2
      have g3' := (he.cell (p := ⟨B3, 0, none⟩) (Nat.lt_of_lt_of_le hbw3 hsza)).trans e3
      have hx2 := Ext.trans HX.out he
      have hj2 := HJ.out pre _ w2 none HJA.out (Ext.grown' he) (by simp)
      have hsz2 : W.heap.size ≤ w2.heap.size := Nat.le_trans hsza he.size
      clear bl e1 e2 e3 hsza he d2 HX HJA HC
      generalize wr.heap.size = nb at *
      have hfq : ∀ q : Bool, tgone u (nm, tx) = q → (l.drop k).filter (tgone u) = (if q = true then [((nm, tx) : Nte)] else []) ++ (l.drop (k + 1)).filter (tgone u) := by
        rintro q hq
        rw [HD.out, List.filter_cons, hq]
        cases q <;> rfl
      generalize tgone u (nm, tx) = q at *
      have HQ := Lib.hid (hfq q rfl)
      clear hfq
      cases q
      · gi_wp2
        refine ⟨(fun f h => by cases h), ?_⟩
        gi_wp2
        go_roundw
        case rel => exact ⟨k + 1, pre, by simp, by omega, by rw [HF.out, HQ.out]; rfl, hj2, hx2, hsz2, g1', g2', g3'⟩
        case measure => simp [intOf]; omega
      · obtain ⟨fn, tmps, assign, body, hy, hR⟩ := HY.out pre (nm, tx) w2 hj2 ⟨_, by rw [HF.out, HQ.out]; rfl⟩
        unfold ntV strV at hy
        dsimp only at hy
        gi_wp2
        refine hR.mono ?_
        rintro e W3 (⟨rfl, hJ3, hk3⟩ | ⟨rfl, hJx3, hk3⟩)
        · have i1 : W3.cell? ⟨B1, 0, none⟩ = _ := (World.cell?_of_block (a := ⟨B1, 0, none⟩) hk3.b1).trans g1'
          have i2 : W3.cell? ⟨B2, 0, none⟩ = _ := (World.cell?_of_block (a := ⟨B2, 0, none⟩) hk3.b2).trans g2'
          have i3 : W3.cell? ⟨B3, 0, none⟩ = _ := (World.cell?_of_block (a := ⟨B3, 0, none⟩) hk3.b3).trans g3'
          have hx3 : Ext w0 W3 := Below.trans hx2 hk3.below
          have hsz3 : W.heap.size ≤ W3.heap.size := Nat.le_trans hsz2 hk3.below.size
          gi_wp2
          go_roundw
          case rel => exact ⟨k + 1, pre ++ [(nm, tx)], by simp, by omega, by rw [HF.out, HQ.out, List.append_assoc]; rfl, hJ3, hx3, hsz3, i1, i2, i3⟩
          case measure => simp [intOf]; omega
        · gi_wp2
          refine bodyPost_ret (results_none rfl _ _ _) rfl ?_
          exact ⟨⟨_, rfl⟩, .inr ⟨_, trivial, hJx3⟩⟩
    · gi_wp2
      go_end0
      exact ⟨⟨_, rfl⟩, .inl ⟨pre, by rw [HF.out, List.drop_eq_nil_of_le (by omega)]; simp, hj⟩⟩

/-- What stands while notes are gathered in a range over the iterator. -/
structure TrJ (w : World) (z bo : Nat) (B : List (Nat × TypeId × Value)) (vo : Value) (ns : List Nte) (W : World) : Prop where
  ext : Ext w W
  size : z ≤ W.heap.size
  keep : ∀ p ∈ B, Boxed W p.1 p.2.1 p.2.2
  out : Boxed W bo 47 vo
  row : W.ownsRow z 38 2 vo ns.length (nsC ns)
theorem TrJ.kept {w X Y : World} {z bo : Nat} {B : List (Nat × TypeId × Value)} {vo : Value} {outs : List Nte} (h : TrJ w z bo B vo outs X) (ha : OwnAt w z bo B) {row : Option Nat} (hg : X.grownBy Y row) (hr : ∀ r, row = some r → z ≤ r ∧ ∃ o : Obj, X.heap[r]? = some o ∧ o.isCells = false) : TrJ w z bo B vo outs Y := by
  have hc : ∀ {b : Nat} {T : TypeId} {u : Value}, Boxed X b T u → Boxed Y b T u := fun hb => hb.kept hg (fun e' => by
    obtain ⟨_, o, ho, hc⟩ := hr _ e'.symm
    rw [show X.heap[_]? = _ from hb] at ho; cases ho; cases hc)
  exact ⟨Below.grown h.ext hg h.ext.size (fun k e => Nat.le_trans ha.hz (hr k e).1), Nat.le_trans h.size hg.size, fun p hp => hc (h.keep p hp), hc h.out, row_apart h.row hg (fun j C fz ej hj => by
    obtain ⟨_, o, ho, hc⟩ := hr j ej
    rw [hj] at ho; cases ho; cases hc)⟩
def TrI (w : World) (z bo : Nat) (B : List (Nat × TypeId × Value)) (pre : List Nte) (W : World) : Prop := ∃ vo, TrJ w z bo B vo (trimOf pre) W
theorem trI_own {w : World} {z bo : Nat} {B : List (Nat × TypeId × Value)} (ha : OwnAt w z bo B) : OwnFrom z (TrI w z bo B) := by
  rintro pre X Y row ⟨vo, h⟩ hg hr
  exact ⟨vo, h.kept ha hg hr⟩
/-- The note is appended and the result's box written. -/
theorem TrJ.app {w W9 w3 : World} {z bo : Nat} {B : List (Nat × TypeId × Value)} {vo v' : Value} {outs : List Nte} {tmp : Obj} {x : Nte} (h : TrJ w z bo B vo outs W9) (ha : OwnAt w z bo B)
    (hown : w3.ownsRow z 38 2 v' (outs.length + 1) (nsC outs ++ [strV x.1, strV x.2])) (hg : (W9.alloc tmp).grownBy w3 vo.ownBlock) :
    Boxed w3 bo 47 vo ∧ TrJ w z bo B v' (outs ++ [x]) (w3.setCell ⟨bo, 0, none⟩ v') ∧ KeepsFrom z W9 (w3.setCell ⟨bo, 0, none⟩ v') ∧ Below w.heap.size W9 (w3.setCell ⟨bo, 0, none⟩ v') := by
  have hge := row_cells h.row
  have hs9 := h.ext.size
  have hz9 := h.size
  have hrz := ha.hz
  have keepB : ∀ {b : Nat} {T : TypeId} {u : Value}, b < z → Boxed W9 b T u → Boxed w3 b T u := fun hb hbx => (hbx.alloc tmp).kept hg (fun e => by have := (hge _ e.symm).1; omega)
  have hbo := keepB ha.bz h.out
  have tOf : ∀ j, vo.ownBlock = some j → ∃ C fz, (W9.alloc tmp).heap[j]? = some (Obj.cells C 38 fz) := fun j ej => by
    obtain ⟨_, C, fz, hj⟩ := hge j ej
    exact ⟨C, fz, (Below.heap_alloc W9 tmp j (Array.getElem?_eq_some_iff.1 hj).1).trans hj⟩
  have hgs : w3.grownBy (w3.setCell ⟨bo, 0, none⟩ v') (some bo) := gb_setC _ _ _ _
  have hsz := hg.size
  rw [World.size_alloc] at hsz
  have hbz := ha.bz
  have hlo := ha.lo
  refine ⟨hbo, ⟨?_, ?_, fun p hp => ?_, hbo.set v', ?_⟩, ?_, ?_⟩
  · exact Below.setCell (Below.grown (h.ext.trans (ext_alloc _ tmp)) hg (by simp; omega) (fun j ej => by have := (hge j ej).1; omega)) (by simpa using hlo) _
  · simp; omega
  · exact (keepB (ha.oth p hp).2.1 (h.keep p hp)).other (ha.oth p hp).2.2 _
  · rw [List.length_append, nsC_snoc]
    exact row_apart hown hgs (fun j C fz ej hj => by
      injection ej with ej
      subst ej
      rw [show w3.heap[_]? = _ from hbo] at hj
      injection hj with hj
      injection hj with _ hj
      exact absurd hj (by decide))
  · refine ((KeepsOthers.alloc W9 tmp).trans ((KeepsOthers.of_grownBy hg fun j o ej hj => ?_).trans (KeepsOthers.setCell _ _ _))) |>.from _
    obtain ⟨C, fz, hC⟩ := tOf j ej
    rw [hC] at hj
    cases hj
    rfl
  · exact Below.setCell (Below.grown (Below.alloc (Below.refl _ _) hs9 tmp) hg (by simp; omega) (fun j ej => by have := (hge j ej).1; omega)) (by simpa using hlo) _
def TrA (l : List Nte) (z : Nat) (tm : Nat → Value → Array Value) (pre : List Nte) (x : Nte) (a' : Act) (W : World) : Prop :=
  (x ∈ l ∧ pre.length + 1 ≤ l.length) ∧ ∃ Bx, z ≤ Bx ∧ W.heap[Bx]? = some (Obj.cells #[strV x.1, strV x.2] 38) ∧ a' = { tmps := tm Bx (ntV x), defers := [] }
theorem trA_own (l : List Nte) (z : Nat) (tm : Nat → Value → Array Value) (pre : List Nte) (x : Nte) (a' : Act) : OwnFrom z (fun (_ : Unit) W => TrA l z tm pre x a' W) := by
  rintro _ X Y row ⟨hl, Bx, h1, h2, h3⟩ hg hr
  refine ⟨hl, Bx, h1, ?_, h3⟩
  refine (hg.block Bx (Array.getElem?_eq_some_iff.1 h2).1 (fun e' => ?_)).trans h2
  obtain ⟨_, o, ho, hc⟩ := hr _ e'.symm
  rw [h2] at ho; cases ho; cases hc
theorem tfilter_pre {l pre rest : List Nte} {x : Nte} {q : Nte → Bool} (h : l.filter q = pre ++ x :: rest) : x ∈ l ∧ pre.length + 1 ≤ l.length := by
  have h1 := List.length_filter_le q l
  rw [h] at h1
  simp at h1
  exact ⟨(List.mem_filter.1 (by rw [h]; simp : x ∈ l.filter q)).1, by omega⟩
theorem trimOf_len (l : List Nte) : (trimOf l).length = l.length := by unfold trimOf; simp

set_option maxRecDepth 100000 in
set_option maxHeartbeats 4000000 in
theorem capTrim_any (u : Int) (v : Value) (l : List Nte) (w : World) (hs : Ns w v l) (hl : l.length ≤ 100000) :
    Calls Tryd.prog 23 #[v, .int .i64 u] w fun e w' => ∃ r, e = .returned r ∧ Ns w' r (trimOf (l.filter (tgone u))) ∧ Ext w w' := by
  obtain ⟨A, c, rfl, _⟩ := hs.at_
  obtain ⟨i0, hi0, hz0, hz1, hz2⟩ := info_parts infoNt
  refine (callsIn_wide (n := 5)).1 ?_
  refine callsIn_of_wp_marks Tryd.func23 rfl trivial ?_ rfl
  simp only [Tryd.ntmps23, List.size_toArray, List.length_cons, List.length_nil, Nat.reduceAdd, Nat.reduceSub, Array.replicate_succ, Array.replicate_zero, List.push_toArray, List.append_toArray, List.nil_append, List.cons_append]
  have hmf : ∀ (fn : Fn) (first cap : Array Value) (w : World), (Instr.makeFunc fn first cap).run Tryd.prog w = .ok (.func fn first cap) w := fun _ _ _ _ => rfl
  gi_wp2
  refine ⟨trivial, (callsIn_wide.2 (someN_any A l.length c 44 w.heap.size _)).mono ?_⟩
  rintro e w1 ⟨rfl, rfl⟩
  gi_wp2
  try simp only [World.size_alloc]
  obtain ⟨W0, hW0⟩ : ∃ W0, (((w.alloc (.cells #[.int .i64 u] 3)).alloc (.cells #[.slice none 0 0] 47)).alloc (.cells #[.slice A l.length c] 47)).alloc (.cells #[.func (.func 44) #[] #[.pointer (some ⟨w.heap.size, 0, none⟩)]] 94) = W0 := ⟨_, rfl⟩
  have hx : Ext w W0 := by rw [← hW0]; exact Ext.trans (Ext.trans (Ext.trans (ext_alloc _ _) (ext_alloc _ _)) (ext_alloc _ _)) (ext_alloc _ _)
  have hsz : W0.heap.size = w.heap.size + 1 + 1 + 1 + 1 := by rw [← hW0]; simp
  have b1 : Boxed W0 w.heap.size 3 (.int .i64 u) := by rw [← hW0]; exact (((Boxed.new w _ _).alloc _).alloc _).alloc _
  have b2 : Boxed W0 (w.heap.size + 1) 47 (.slice none 0 0) := by rw [← hW0]; have := ((Boxed.new (w.alloc (.cells #[.int .i64 u] 3)) 47 (.slice none 0 0)).alloc (.cells #[.slice A l.length c] 47)).alloc (.cells #[.func (.func 44) #[] #[.pointer (some ⟨w.heap.size, 0, none⟩)]] 94); simpa using this
  have b3 : Boxed W0 (w.heap.size + 1 + 1) 47 (.slice A l.length c) := by rw [← hW0]; have := (Boxed.new ((w.alloc (.cells #[.int .i64 u] 3)).alloc (.cells #[.slice none 0 0] 47)) 47 (.slice A l.length c)).alloc (.cells #[.func (.func 44) #[] #[.pointer (some ⟨w.heap.size, 0, none⟩)]] 94); simpa using this
  have b4 : Boxed W0 (w.heap.size + 1 + 1 + 1) 94 (.func (.func 44) #[] #[.pointer (some ⟨w.heap.size, 0, none⟩)]) := by rw [← hW0]; have := Boxed.new (((w.alloc (.cells #[.int .i64 u] 3)).alloc (.cells #[.slice none 0 0] 47)).alloc (.cells #[.slice A l.length c] 47)) 94 (.func (.func 44) #[] #[.pointer (some ⟨w.heap.size, 0, none⟩)]); simpa using this
  rw [hW0]
  clear hW0
  obtain ⟨BB, hBB⟩ : ∃ BB : List (Nat × TypeId × Value), BB = [(w.heap.size, 3, .int .i64 u), (w.heap.size + 1 + 1, 47, .slice A l.length c), (w.heap.size + 1 + 1 + 1, 94, .func (.func 44) #[] #[.pointer (some ⟨w.heap.size, 0, none⟩)])] := ⟨_, rfl⟩
  have hat : OwnAt w W0.heap.size (w.heap.size + 1) BB := ⟨hx.size, by omega, by omega, by
    rw [hBB]
    intro p hp
    simp only [List.mem_cons, List.not_mem_nil, or_false] at hp
    rcases hp with rfl | rfl | rfl <;> dsimp only <;> omega⟩
  have hB0 : ∀ vo outs W, TrJ w W0.heap.size (w.heap.size + 1) BB vo outs W → Boxed W w.heap.size 3 (.int .i64 u) := fun vo outs W h => h.keep (_, _, _) (by rw [hBB]; simp)
  have hB1 : ∀ vo outs W, TrJ w W0.heap.size (w.heap.size + 1) BB vo outs W → Boxed W (w.heap.size + 1 + 1) 47 (.slice A l.length c) := fun vo outs W h => h.keep (_, _, _) (by rw [hBB]; simp)
  have hB2 : ∀ vo outs W, TrJ w W0.heap.size (w.heap.size + 1) BB vo outs W → Boxed W (w.heap.size + 1 + 1 + 1) 94 (.func (.func 44) #[] #[.pointer (some ⟨w.heap.size, 0, none⟩)]) := fun vo outs W h => h.keep (_, _, _) (by rw [hBB]; simp)
  have hKp : ∀ vo outs vo' outs' W W', TrJ w W0.heap.size (w.heap.size + 1) BB vo outs W → TrJ w W0.heap.size (w.heap.size + 1) BB vo' outs' W' → Below w.heap.size W W' → KpC w.heap.size (w.heap.size + 1 + 1) (w.heap.size + 1 + 1 + 1) w.heap.size W W' := fun vo outs vo' outs' W W' h k hb =>
    ⟨hb, (show _ = _ from hB1 _ _ _ k).trans (show _ = _ from hB1 _ _ _ h).symm, (show _ = _ from hB2 _ _ _ k).trans (show _ = _ from hB2 _ _ _ h).symm, (show _ = _ from hB0 _ _ _ k).trans (show _ = _ from hB0 _ _ _ h).symm⟩
  have hin : TrJ w W0.heap.size (w.heap.size + 1) BB (.slice none 0 0) [] W0 := ⟨hx, Nat.le_refl _, by
    rw [hBB]
    intro p hp
    simp only [List.mem_cons, List.not_mem_nil, or_false] at hp
    rcases hp with rfl | rfl | rfl <;> assumption, b2, World.ownsRow_nil _ _ _ _⟩
  clear hBB
  have HL := Lib.hid hl
  have HB0 := Lib.hid hB0
  have HB1 := Lib.hid hB1
  have HB2 := Lib.hid hB2
  have HKP := Lib.hid hKp
  have HAT := Lib.hid hat
  clear hB0 hB1 hB2 hKp hat
  refine wpIn_rangeW rfl (by omega) (gf := 77) (lb := #[.pointer (some ⟨w.heap.size + 1 + 1, 0, none⟩), .pointer (some ⟨w.heap.size + 1 + 1 + 1, 0, none⟩)]) rfl trivial (enters_of Tryd.func77 (by kernel_rfl) rfl)
    (someTrim_any 4 (by omega) w A c l u hs (w.heap.size + 1 + 1) (w.heap.size + 1 + 1 + 1) w.heap.size W0 hx b3.cell b4.cell b1.cell b3.lt b4.lt b1.lt) (fun h k => h.trans k) ?kb (Below.refl _ _) (fun _ => rfl) (fun _ _ _ _ h _ _ => h) (fun _ _ _ _ _ _ _ => trivial)
    (TrI w W0.heap.size (w.heap.size + 1) BB) (fun _ _ _ => False) (trI_own HAT.out) (fun _ _ _ _ _ hs _ _ => hs) ⟨_, hin⟩
    (TrA l W0.heap.size (fun Bx xv => #[.slice A l.length c, .int .i64 u, undef, .pointer (some ⟨w.heap.size, 0, none⟩), .pointer (some ⟨w.heap.size + 1, 0, none⟩), .pointer (some ⟨Bx, 0, none⟩), .slice A l.length c, .func (.func 44) #[] #[.pointer (some ⟨w.heap.size, 0, none⟩)], .func (.func 77) #[] #[.pointer (some ⟨w.heap.size + 1 + 1, 0, none⟩), .pointer (some ⟨w.heap.size + 1 + 1 + 1, 0, none⟩)], xv, undef, undef, undef, undef, undef, undef, undef]))
    (trA_own _ _ _) ?assign ?body ?done ?stop
  case kb =>
    intro W k o o' hk ho hc _
    have hlt := (Array.getElem?_eq_some_iff.1 ho).1
    refine ⟨(Below.refl _ W).grown (grownBy_putObj' W k o') (by omega) (fun j e => by cases e; omega), World.putObj_heap_other (by omega), World.putObj_heap_other (by omega), World.putObj_heap_other (by omega)⟩
  case assign =>
    rintro k pre ⟨nm, tx⟩ W K ⟨vo, hj⟩ ⟨rest, hR⟩ hK
    have hlp := tfilter_pre hR
    unfold ntV at hK ⊢
    unfold strV at ⊢
    dsimp only at hK ⊢
    gi_wp2
    have hj2 := hj.kept HAT.out (World.grownBy_alloc W (.cells #[.string ⟨nm.toArray⟩, .string ⟨tx.toArray⟩] 38) none) (fun r e => by cases e)
    refine hK _ _ ?_ ?_ ?_ ⟨hlp, W.heap.size, hj.size, ?_, rfl⟩
    · exact (KeepsOthers.alloc _ _).from _
    · exact HKP.out _ _ _ _ _ _ hj hj2 (Below.alloc (Below.refl _ _) hj.ext.size _)
    · exact ⟨vo, hj2⟩
    · exact World.alloc_heap_new _ _
  case body =>
    rintro k pre ⟨nm, tx⟩ a' W hk ⟨vo, hj⟩ ⟨⟨hmem, hlp⟩, Bx, hzb, hbx, rfl⟩
    have hol : (trimOf pre).length ≤ 100000 := by
      rw [trimOf_len]
      omega
    obtain ⟨Ao, no, co, rfl⟩ := row_slice hj.row
    have HJ := Lib.hid hj
    have hrow := hj.row
    have ho := hj.out.cell
    have fo := hj.out.frozen
    have cb0 : W.cell? ⟨Bx, 0, none⟩ = some (strV nm) := by simp [World.cell?, hbx]
    have hzz := hj.size
    clear hj hbx
    unfold ntV strV at *
    dsimp only at *
    gi_wp2_with (gi_at_builtin; refine wpListIn_append_own _ rfl (.tmp 10) (.tmp 14) 47 rfl W0.heap.size 38 i0 _ 2 32 Tryd.underlying47 hi0 hz0 hz1 hz2 rfl (by decide) _ _ _ rfl (hrow.alloc _) ⟨W.heap.size, 0, none⟩ 1 1 [.string ⟨nm.toArray⟩, .string ⟨#[]⟩] rfl rfl (by intro j u hu; rw [add_at, Nat.zero_add]; exact (Blk.new W #[.string ⟨nm.toArray⟩, .string ⟨#[]⟩] 38).cell (i := j) hu) (by intro u hu; simp only [List.mem_cons, List.not_mem_nil, or_false] at hu; rcases hu with rfl | rfl <;> rfl) (by unfold maxLen; omega) (by omega) (by simp; omega) ?_; intro v' w1 hown' hgrow _; obtain ⟨A3, n3, c3, rfl⟩ := row_slice hown'; obtain ⟨hv1, hj, hkp, hkf⟩ := HJ.out.app HAT.out (x := (nm, [])) hown' hgrow; have c1 := hv1.cell; have f1 := hv1.frozen)
    exact ⟨hkp, HKP.out _ _ _ _ _ _ HJ.out hj hkf, _, by rw [trimOf_snoc]; exact hj⟩
  case done =>
    rintro D xs W hD rfl ⟨vo, hj⟩ hdef
    have hvo := hj.out
    have co := hvo.cell
    have fo := hvo.frozen
    have HJ := Lib.hid hj
    obtain ⟨Ao, no, co', rfl⟩ := row_slice hj.row
    clear hj
    gi_wp2
    simp only [setCell_sameC hvo]
    refine ⟨by simp, .inl ⟨_, _, rfl, run_takeDeferred (w := W) hdef, ?_⟩⟩
    have hj3 := HJ.out.kept HAT.out (grownBy_putObj' W D (.deferred none)) (fun r e => by cases e; exact ⟨hD, _, hdef, rfl⟩)
    refine ⟨.slice Ao no co', ?_, .slice Ao no co', rfl, ⟨fl_of_row hj3.row, fun x hx => ?_⟩, hj3.ext⟩
    · have k1 := hj3.out.cell
      simp [results, Tryd.results23, go_sem, k1]
    · obtain ⟨y, hy, rfl⟩ := List.mem_map.1 hx
      exact ⟨(hs.2 y (List.mem_filter.1 hy).1).1, by simp⟩
  case stop => rintro D c pre W _ _ h; exact h.elim
end Go.Proofs.YtacabcpjaadijaaDoor

/-
  Layer 19 in plain Lean: what is left behind Trim of the notes of changes that follow one another.
-/
namespace Go.Proofs.YtacabcpjaadijaaDoor
open Go Go.RowKit Mono Num
set_option linter.unusedVariables false
set_option linter.unusedSimpArgs false
set_option maxRecDepth 100000

theorem digs_pad : ∀ (k n a : Nat) (t : List UInt8), n < 10 ^ k → digs (pad k n ++ t) a = digs t (10 ^ k * a + n)
  | 0, n, a, t, h => by
    have : n = 0 := by simpa using h
    subst this
    simp [pad]
  | k + 1, n, a, t, h => by
    have hm := Nat.mod_lt n (show 0 < 10 by decide)
    have hd : n / 10 < 10 ^ k := by rw [Nat.pow_succ] at h; omega
    rw [pad_step, digs_pad k (n / 10) a _ hd, digs]
    have hb : (UInt8.ofNat (48 + n % 10)).toNat = 48 + n % 10 := by
      rw [UInt8.toNat_ofNat']
      omega
    rw [hb, if_neg (by omega)]
    congr 1
    have hdm := Nat.div_add_mod n 10
    rw [Nat.pow_succ, Nat.mul_right_comm]
    generalize 10 ^ k * a = z
    omega
theorem pnumber_pname (n : Int) (h1 : 1 ≤ n) (h2 : n ≤ 1099511627776) : pnumber (pname n) = n := by
  unfold pname
  rw [if_neg (by omega)]
  unfold pnumber
  have hl := pad_len 13 n.toNat
  rw [if_neg (by rw [List.length_cons, hl]; decide), if_neg (by simp)]
  have hd := digs_pad 13 n.toNat 0 [] (by have : (10 : Nat) ^ 13 = 10000000000000 := by decide
                                          omega)
  rw [List.append_nil, Nat.mul_zero, Nat.zero_add] at hd
  rw [List.drop_succ_cons, List.drop_zero, hd, digs]
  dsimp only
  rw [if_neg (by omega)]
  omega
theorem tgone_note {gs : List Grp} {u : Int} {c : Ch} (h : cgood gs c = 0) : tgone u (noteOf gs c) = decide (c.seq ≤ u) := by
  have hb := (good_bounds h).1
  unfold tgone noteOf
  dsimp only
  rw [pnumber_pname _ hb.1 hb.2]
  simp
  omega
theorem chain_low : ∀ (os : List Ch) (q : Int), chainC (some q) os → ∀ x ∈ os, q < x.seq
  | [], _, _, x, hx => by cases hx
  | c :: r, q, h, x, hx => by
    have h1 := h.1 q rfl
    rcases List.mem_cons.1 hx with rfl | hx
    · omega
    · have := chain_low r c.seq h.2 x hx
      omega
theorem run_trim (u : Int) : ∀ (os : List Ch) (p : Option Int), chainC p os → ∃ m, m ≤ os.length ∧ os.filter (fun c => decide (c.seq ≤ u)) = os.take m ∧ os.filter (fun c => decide (u < c.seq)) = os.drop m
  | [], _, _ => ⟨0, Nat.le_refl _, rfl, rfl⟩
  | c :: r, p, h => by
    by_cases hc : c.seq ≤ u
    · obtain ⟨m, h1, h2, h3⟩ := run_trim u r (some c.seq) h.2
      refine ⟨m + 1, by simpa using h1, ?_, ?_⟩
      · rw [List.filter_cons, if_pos (by simpa using hc), h2, List.take_succ_cons]
      · rw [List.filter_cons, if_neg (by simpa using hc), h3, List.drop_succ_cons]
    · have hlow := chain_low r c.seq h.2
      refine ⟨0, Nat.zero_le _, ?_, ?_⟩
      · rw [List.take_zero]
        refine List.filter_eq_nil_iff.2 fun x hx => ?_
        rcases List.mem_cons.1 hx with rfl | hx
        · simpa using hc
        · have := hlow x hx
          simp
          omega
      · rw [List.drop_zero]
        refine List.filter_eq_self.2 fun x hx => ?_
        rcases List.mem_cons.1 hx with rfl | hx
        · simpa using hc
        · have := hlow x hx
          simp
          omega
/-- How many notes go, and what is told behind them. -/
theorem run_gone {gs : List Grp} {site : Int} {os : List Ch} (u : Int) (h : RunC gs site os) : ∃ m, m ≤ os.length ∧ (os.map (noteOf gs)).filter (tgone u) = (os.map (noteOf gs)).take m ∧ os.filter (fun c => decide (u < c.seq)) = os.drop m := by
  obtain ⟨m, h1, h2, h3⟩ := run_trim u os none h.ch
  refine ⟨m, h1, ?_, h3⟩
  rw [List.filter_map, ← List.map_take, ← h2]
  congr 1
  refine List.filter_congr fun c hc => ?_
  exact tgone_note (h.ok c hc).1

/-- 's[k:]' of notes. -/
theorem notes_from (A : Option Addr) (n c k : Nat) (hk : k ≤ n) (hc : n ≤ c) : ∃ A', (∀ (w' : World) (o : Oper) (f : Operand → Value) (x y : Operand), o.op = .slice 47 x (some y) none none → f x = .slice A n c → f y = .int .i64 (k : Int) → (execOp f o).run Tryd.prog w' = .ok (.value (.slice A' (n - k) (c - k))) w') ∧
    ∀ w (l : List Nte), l.length = n → Ns w (.slice A n c) l → Ns w (.slice A' (n - k) (c - k)) (l.drop k) := by
  have h1 : (k : Int) ≤ (n : Int) := by omega
  have h0 : (0 : Int) ≤ (k : Int) := by omega
  have hu := Tryd.underlying47
  have hcl : Tryd.prog.cellsOf 38 = 2 := by kernel_rfl
  refine ⟨if c = k then A else A.map (·.add (k * 2)), fun w' o f x y hop hx hy => ?_, fun w l hl h => ?_⟩
  · simp [execOp, hop, hx, hy, h0, h1, hcl, go_sem]
  · obtain ⟨⟨A1, c1, hv, j1, j2, j3, j4⟩, hlim⟩ := h
    injection hv with e1 e2 e3
    subst e1 e3
    refine ⟨⟨_, _, by rw [List.length_drop, hl], by rw [List.length_drop]; omega, by omega, fun hA => ?_, fun h00 => ?_⟩, fun x hx => hlim x (List.mem_of_mem_drop hx)⟩
    · split at hA
      · omega
      · have : A = none := by simpa using hA
        have := j3 this
        omega
    · rw [List.length_drop] at h00
      obtain ⟨b, off, rfl, hb, hcell⟩ := j4 (by omega)
      rw [if_neg (by omega)]
      refine ⟨b, off + k * 2, by by_cases hk0 : k = 0 <;> simp [Addr.add, hk0] <;> omega, hb, fun j v hv => ?_⟩
      rw [Nat.add_assoc]
      refine hcell _ v ?_
      have hd : ∀ (q : Nat) (ll : List Nte), nsC (ll.drop q) = (nsC ll).drop (q * 2) := by
        intro q
        induction q with
        | zero => intro ll; rw [List.drop_zero, Nat.zero_mul, List.drop_zero]
        | succ q ih =>
          intro ll
          cases ll with
          | nil => simp [nsC]
          | cons y r =>
            rw [List.drop_succ_cons, ih r]
            have h2 : nsC (y :: r) = strV y.1 :: strV y.2 :: nsC r := by unfold nsC; simp
            rw [h2, Nat.add_mul, Nat.one_mul, List.drop_succ_cons, List.drop_succ_cons]
      rw [hd, List.getElem?_drop] at hv
      exact hv
theorem monoUpon_ok {P : Program} {w w' : World} {R : Value → World → Prop} {X : Result Next} {v : Value} (h : X = .ok (.value v) w') (he : Ext w w') (hr : R v w') : monoUpon P w R X := by rw [h]; exact ⟨he, hr⟩
end Go.Proofs.YtacabcpjaadijaaDoor
