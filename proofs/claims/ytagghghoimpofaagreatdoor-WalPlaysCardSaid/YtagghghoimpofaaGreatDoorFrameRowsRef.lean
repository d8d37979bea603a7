/-
 The walks of the document's Rows, Same and of both Next.
-/
import Derived.Test.YtagghghoimpofaaGreatDoorFrameRowsWalk
namespace Go.Proofs.YtagghghoimpofaaGreatDoor
open Go Go.RowKit Mono Num Crc
set_option linter.unusedVariables false
set_option linter.unusedSimpArgs false

theorem OwB.grownOther {W w1 : World} {base z k : Nat} {e : TypeId} {v vo : Value} {l : List UInt8} {xs : List Value} (h : OwB W base v l) (hr : W.ownsRow z e 1 vo k xs) (he : e ≠ 5) (hg : W.grownBy w1 vo.ownBlock) : OwB w1 base v l := by
 refine World.ownsRow.kept h hg ?_
 rcases h.2 with ⟨rfl, _⟩ | ⟨g, cap, cur, rfl, _, hgb, _⟩
 ·exact .inl rfl
 ·refine .inr fun e' => ?_
  rcases hr.2 with ⟨rfl, _⟩ | ⟨g', cap', cur', rfl, _, hgb', _⟩
  ·simp [Value.ownBlock] at e'
  ·obtain rfl : g = g' := by simpa [Value.ownBlock] using e'
   rw [hgb] at hgb'
   simp at hgb'
   exact he hgb'.2.symm

theorem BssO.ext_ {w w' : World} {z : Nat} {v : Value} {ls : List (List UInt8)} (h : BssO w z v ls) (k : Ext w w') : BssO w' z v ls := by
 obtain ⟨vs, h1, h2⟩ := h
 exact ⟨vs, Ow.ext h1 k, h2.mono fun _ _ hy => hy.ext k⟩
/-- What the document's loop holds at its head. -/
structure RefRow (w : World) (l : List UInt8) (out : Value) (p : Nat) (wr : World) : Prop where
 row : ∃ (vs : List Value) (d : List (List UInt8 × Nat × Nat)), felts 0 l = d ++ felts p (l.drop p) ∧ (∀ x ∈ d, x.2.2 = 0) ∧ (match d.getLast? with | some x => x.2.1 | none => 0) = p ∧ d.length ≤ p ∧
  wr.ownsRow w.heap.size 34 1 out vs.length vs ∧ All2 (OwB wr w.heap.size) vs (d.map (·.1))
 ext : Ext w wr
theorem RefRow.len {w : World} {l : List UInt8} {out : Value} {p : Nat} {wr : World} (h : RefRow w l out p wr) : ∃ vs : List Value, vs.length ≤ p ∧ wr.ownsRow w.heap.size 34 1 out vs.length vs := by
 obtain ⟨vs, d, _, _, _, h4, h5, h6⟩ := h.row
 have := h6.length
 rw [List.length_map] at this
 exact ⟨vs, by omega, h5⟩
theorem RefRow.bad {w : World} {l : List UInt8} {out : Value} {p n e : Nat} {b : List UInt8} {wr : World} (h : RefRow w l out p wr) (hp : (l.drop p).length ≠ 0) (ho : fopen (l.drop p) = (b, n, e)) (he : e ≠ 0) :
  BssO wr w.heap.size out (frows l).1 ∧ (frows l).2.1 = p ∧ (frows l).2.2 = e := by
 obtain ⟨vs, d, h1, h2, h3, h4, h5, h6⟩ := h.row
 have hn : n = 0 := by
  have h := ho
  unfold fopen at h
  split at h
  ·injection h with _ h; injection h with h _; exact h.symm
  ·split at h
   ·injection h with _ h; injection h with h _; exact h.symm
   ·unfold fopen2 at h
    split at h
    ·injection h with _ h; injection h with h _; exact h.symm
    ·split at h
     ·injection h with _ h; injection h with h _; exact h.symm
     ·split at h
      ·injection h with _ h; injection h with h _; exact h.symm
      ·split at h
       ·injection h with _ h; injection h with h _; exact h.symm
       ·injection h with _ h; injection h with _ h; exact absurd h.symm he
 have hf : felts 0 l = d ++ [(b, p, e)] := by rw [h1, felts_cons _ _ hp, ho]; simp [he, hn]
 unfold frows
 rw [hf]
 refine ⟨⟨vs, h5, ?_⟩, by simp, by simp⟩
 rw [List.filter_append, List.filter_eq_self.2 (fun x hx => by simp [h2 x hx])]
 simp only [List.filter_cons, beq_iff_eq, he, if_false, List.filter_nil, List.append_nil]
 exact h6
theorem RefRow.all {w : World} {l : List UInt8} {out : Value} {p : Nat} {wr : World} (h : RefRow w l out p wr) (hp : (l.drop p).length = 0) :
  BssO wr w.heap.size out (frows l).1 ∧ (frows l).2.1 = p ∧ (frows l).2.2 = 0 := by
 obtain ⟨vs, d, h1, h2, h3, h4, h5, h6⟩ := h.row
 have hf : felts 0 l = d := by rw [h1, felts_nil _ _ hp, List.append_nil]
 unfold frows
 rw [hf]
 refine ⟨⟨vs, h5, ?_⟩, h3, ?_⟩
 ·rw [List.filter_eq_self.2 (fun x hx => by simp [h2 x hx])]
  exact h6
 ·cases hd : d.getLast? with
  | none => rfl
  | some x => exact h2 x (List.mem_of_getLast? hd)
theorem RefRow.next {w : World} {l : List UInt8} {out v v' : Value} {p n k : Nat} {b : List UInt8} {ys vs : List Value} {wr w1 w2 : World} {tmp : Obj} (h : RefRow w l out p wr) (hp : (l.drop p).length ≠ 0) (ho : fopen (l.drop p) = (b, n, 0)) (hv : OwB w1 w.heap.size v b) (he : Ext wr w1)
  (hrow : wr.ownsRow w.heap.size 34 1 out vs.length vs) (hown : w2.ownsRow w.heap.size 34 1 v' k ys) (hk : k = ys.length) (hys : ys = vs ++ [v]) (hg : (w1.alloc tmp).grownBy w2 out.ownBlock) : RefRow w l v' (p + n) w2 := by
 subst hk hys
 obtain ⟨vs', d, h1, h2, h3, h4, h5, h6⟩ := h.row
 have hvs : vs' = vs := by
  rcases h5.2 with ⟨e1, e2⟩ | ⟨g, cap, cur, e1, _, e2, _, _, _, e3⟩
  ·rcases hrow.2 with ⟨f1, f2⟩ | ⟨g', cap', cur', f1, _⟩
   ·rw [List.eq_nil_of_length_eq_zero e2, List.eq_nil_of_length_eq_zero f2]
   ·rw [e1] at f1; cases f1
  ·rcases hrow.2 with ⟨f1, f2⟩ | ⟨g', cap', cur', f1, _, f2, _, _, _, f3⟩
   ·rw [e1] at f1; cases f1
   ·rw [e1] at f1
    injection f1 with f0 f1 _
    injection f0 with f0
    injection f0 with f0 _ _
    subst f0
    rw [e2] at f2
    injection f2 with f2
    injection f2 with f2
    subst f2
    rw [← e3, ← f3, f1]
 subst hvs
 have hr2 : (w1.alloc tmp).ownsRow w.heap.size 34 1 out vs'.length vs' := Ow.ext (Ow.ext hrow he) (ext_alloc _ _)
 have hroom := fopen_room (b := l.drop p) (by rw [ho])
 rw [ho] at hroom
 dsimp only at hroom
 have keep : ∀ x y, OwB wr w.heap.size x y → OwB w2 w.heap.size x y := fun x y hx => OwB.grownOther ((hx.ext he).ext (ext_alloc _ _)) hr2 (by decide) hg
 refine ⟨⟨vs' ++ [v], d ++ [(b, p + n, 0)], ?_, ?_, by simp, by simp; omega, hown, ?_⟩, ?_⟩
 ·rw [h1, felts_cons _ _ hp, ho]
  simp [List.drop_drop]
 ·intro x hx
  rcases List.mem_append.1 hx with hx | hx
  ·exact h2 x hx
  ·rw [List.mem_singleton.1 hx]
 ·rw [List.map_append]
  exact (h6.mono keep).append ⟨OwB.grownOther (hv.ext (ext_alloc _ _)) hr2 (by decide) hg, trivial⟩
 ·exact Below.growOw (Ext.trans (Ext.trans h.ext he) (ext_alloc _ _)) hr2 hg (Nat.le_refl _) (by have := h.ext.size; have := he.size; simp; omega)

set_option maxHeartbeats 1600000 in
theorem rRowsO_any (v : Value) (l : List UInt8) (w : World) (hv : Bs w v l) (hlen : l.length ≤ 5000000) :
  Calls Tryz.prog 52 #[v] w fun e w' => ∃ r, e = .returned (.tuple #[r, .int .i64 ((frows l).2.1 : Int), .int .i64 ((frows l).2.2 : Int)]) ∧ BssO w' w.heap.size r (frows l).1 ∧ Ext w w' := by
 obtain ⟨A, c, rfl, h1, h2, h3, _⟩ := hv.open_
 obtain ⟨i0, hi0, hz0, hz1, hz2⟩ := info_parts infoBs
 unfold maxLen at h2
 go_enter Tryz.func52, Tryz.ntmps52
 go_wp2_with fail
 go_loopw [5, 6] (fun out at_ wr => ∃ p : Nat, p ≤ l.length ∧ at_ = .int .i64 p ∧ RefRow w l out p wr) (fun _ a _ => l.length - (intOf a).toNat)
 case atStart => exact ⟨0, Nat.zero_le _, rfl, ⟨[], [], by simp, by simp, rfl, Nat.zero_le _, World.ownsRow_nil _ _ _ _, trivial⟩, Ext.refl _⟩
 case round =>
  obtain ⟨p, hp, rfl, hr⟩ := hrel
  have HR := Lib.hid hr
  have hext := hr.ext
  obtain ⟨vs, hvs, hrow⟩ := hr.len
  have hzr := hext.size
  by_cases hlt : p < l.length
  ·have hd := (hv.ext hext).from_ (k := p) hp
   rw [if_neg (show ¬ c = p by omega)] at hd
   have HO := Lib.hid (rOpen_any _ (l.drop p) wr hd (by rw [List.length_drop]; omega))
   clear hd
   have hroom := fopen_room (b := l.drop p)
   have hle := fopen_le (l.drop p)
   rw [List.length_drop] at hle
   obtain ⟨b, n, er, ho⟩ : ∃ b n er, fopen (l.drop p) = (b, n, er) := ⟨_, _, _, rfl⟩
   rw [ho] at hroom hle HO
   dsimp only at hroom hle HO
   have HP := Lib.hid ho
   have hne : (l.drop p).length ≠ 0 := by rw [List.length_drop]; omega
   have HN := Lib.hid hne
   by_cases her : er = 0
   ·subst her
    obtain ⟨hr1, hr2⟩ := hroom rfl
    clear hroom ho hne hr
    go_wp2_with fail
    refine HO.out.mono ?_
    rintro e w1 ⟨r, rfl, hr, he⟩
    obtain ⟨A2, c2, rfl, _, _, _, _⟩ := hr.bs.open_
    have hs1 := he.size
    unfold openV
    have hrow1 : w1.ownsRow w.heap.size 34 1 _ vs.length vs := Ow.ext hrow he
    go_wp2_with (at_builtin; refine wpList_append_own _ rfl (.tmp 27) (.tmp 29) 47 rfl w.heap.size 34 i0 (.slice none 0 0) 1 24 Tryz.underlying47 hi0 hz0 hz1 hz2 rfl (by decide) _ _ _ rfl (hrow1.alloc _) ⟨w1.heap.size, 0, none⟩ 1 1 [.slice A2 b.length c2] rfl rfl (cell_one_new _ _ _) (by simp [Value.oneCell']) (by unfold maxLen; omega) (by omega) (by simp; omega) ?_; intro v' w2 hown' hgrow _)
    have hN := RefRow.next HR.out HN.out HP.out (OwB.mono hr hzr) he hrow hown' (by simp) rfl hgrow
    clear hown' hgrow
    go_wp2_with fail
    go_roundw
    case rel => exact ⟨p + n, by omega, by go_num, hN⟩
    case measure => simp [intOf]; omega
   ·have hbad := hr.bad hne ho her
    have HE := Lib.hid her
    have her' : ((er : Int) != 0) = true := by rw [bne_iff_ne]; omega
    clear hroom ho hne her hr
    go_wp2_with fail
    refine HO.out.mono ?_
    rintro e w1 ⟨r, rfl, hr, he⟩
    unfold openV
    go_wp2_with fail
    go_ret3
    obtain ⟨b1, b2, b3⟩ := hbad
    exact ⟨_, by rw [b2, b3]; rfl, b1.ext_ he, Ext.trans hext he⟩
  ·obtain ⟨b1, b2, b3⟩ := hr.all (by rw [List.length_drop]; omega)
   have H1 := Lib.hid b1
   have H2 := Lib.hid b2
   have H3 := Lib.hid b3
   clear b1 b2 b3 hr
   go_wp2_with fail
   go_ret3
   exact ⟨_, by rw [H2.out, H3.out]; rfl, H1.out, hext⟩

theorem Bss.open_ {w : World} {v : Value} {ls : List (List UInt8)} (h : Bss w v ls) : ∃ A c, v = .slice A ls.length c ∧ ls.length ≤ c ∧ c ≤ maxLen ∧ (A = none → c = 0) ∧
  (0 < ls.length → ∃ b off, A = some ⟨b, off, none⟩ ∧ b < w.heap.size ∧ ∀ i l, ls[i]? = some l → ∃ x, w.cell? ⟨b, off + i, none⟩ = some x ∧ Bs w x l) := by
 obtain ⟨vs, ⟨A, c, hv, h1, h2, h3, h4⟩, hall⟩ := h
 have hl := hall.length
 rw [hl] at hv h1 h4
 refine ⟨A, c, hv, h1, h2, h3, fun h0 => ?_⟩
 obtain ⟨b, off, hA, hb, hc⟩ := h4 h0
 refine ⟨b, off, hA, hb, fun i l hi => ?_⟩
 have hiv : i < vs.length := by have := (List.getElem?_eq_some_iff.1 hi).1; omega
 exact ⟨_, hc i _ (List.getElem?_eq_getElem hiv), hall.get i _ _ (List.getElem?_eq_getElem hiv) hi⟩

def sameB (a b : List (List UInt8)) : Bool := a == b
set_option maxHeartbeats 1600000 in
theorem rSame_any (va vb : Value) (la lb : List (List UInt8)) (w : World) (ha : Bss w va la) (hb : Bss w vb lb) :
  Calls Tryz.prog 18 #[va, vb] w fun e w' => e = .returned (.bool (sameB la lb)) ∧ Ext w w' := by
 obtain ⟨A, c, rfl, h1, h2, h3, h4⟩ := ha.open_
 obtain ⟨B, d, rfl, k1, k2, k3, k4⟩ := hb.open_
 unfold maxLen at h2 k2
 by_cases hl : la.length = lb.length
 ·have hl2 : (((la.length : Nat) : Int) != ((lb.length : Nat) : Int)) = false := by rw [bne_eq_false_iff_eq]; omega
  have HL := Lib.hid hl
  clear hl
  go_enter Tryz.func18, Tryz.ntmps18
  go_wp2_with fail
  go_loopw [5] (fun i wr => ∃ k : Nat, k ≤ la.length ∧ i = .int .i64 k ∧ la.take k = lb.take k ∧ Ext w wr) (fun i _ => la.length - (intOf i).toNat)
  case atStart => exact ⟨0, Nat.zero_le _, rfl, rfl, Ext.refl _⟩
  case round =>
   obtain ⟨i, hi, rfl, htk, hx⟩ := hrel
   by_cases hlt : i < la.length
   ·obtain ⟨ba, oa, rfl, hba, hca⟩ := h4 (by omega)
    obtain ⟨bb, ob, rfl, hbb, hcb⟩ := k4 (by have := HL.out; omega)
    obtain ⟨xa, xca, hxa⟩ := hca i (la.getD i []) (by rw [List.getD_eq_getElem?_getD, List.getElem?_eq_getElem hlt]; rfl)
    obtain ⟨xb, xcb, hxb⟩ := hcb i (lb.getD i []) (by rw [List.getD_eq_getElem?_getD, List.getElem?_eq_getElem (by have := HL.out; omega)]; rfl)
    have hia : (i : Int) < la.length := by omega
    have hib : (i : Int) < lb.length := by have := HL.out; omega
    have hi0 : (0 : Int) ≤ (i : Int) := by omega
    replace xca := (hx.cell (p := ⟨ba, oa + i, none⟩) hba).trans xca
    replace xcb := (hx.cell (p := ⟨bb, ob + i, none⟩) hbb).trans xcb
    replace hxa := hxa.ext hx
    replace hxb := hxb.ext hx
    have hba' := Nat.lt_of_lt_of_le hba hx.size
    have hbb' := Nat.lt_of_lt_of_le hbb hx.size
    have HT := Lib.hid htk
    clear hca hcb htk h4 k4
    go_wp2_with fail
    refine wp_region_mono (by kernel_rfl) (by kernel_rfl) ?_
    refine tele_move rfl (.inl rfl) rfl (isV (.slice (some ⟨ba, oa, none⟩) la.length c)) (fun ρ w' h => h) ?_
    refine tele_move rfl (.inl rfl) rfl (isV (.int .i64 (i : Int))) (fun ρ w' h => h) ?_
    refine tele_val rfl (.pointer (some ⟨ba, oa + i, none⟩)) (fun _ _ _ => rfl) ?_ ?_
    ·rintro ρ w' he ⟨h17, h18, -⟩
     have e17 : ρ 17 = (.slice (some ⟨ba, oa, none⟩) la.length c) := h17
     have e18 : ρ 18 = (.int .i64 (i : Int)) := h18
     simp [execOp, evR, e17, e18, hia, hib, hi0, add_at, go_sem]
    refine tele_val rfl (xa) (fun _ _ _ => rfl) ?_ ?_
    ·rintro ρ w' he ⟨h19, -⟩
     have e19 : ρ 19 = (.pointer (some ⟨ba, oa + i, none⟩)) := h19
     have c := (he.cell (p := ⟨ba, oa + i, none⟩) hba').trans xca
     simp [execOp, evR, e19, c, go_sem]
    refine tele_val rfl (strV (la.getD i [])) (fun _ _ _ => rfl) ?_ ?_
    ·rintro ρ w' he ⟨h20, -⟩
     have e20 : ρ 20 = (xa) := h20
     have c := (hxa.ext he).str_ (P := Tryz.prog) 34 9 5 Tryz.underlying34 Tryz.underlying5 Tryz.underlying9
     simp [execOp, evR, e20, c]
    refine tele_move rfl (.inl rfl) rfl (isV (.slice (some ⟨bb, ob, none⟩) lb.length d)) (fun ρ w' h => h) ?_
    refine tele_move rfl (.inl rfl) rfl (isV (.int .i64 (i : Int))) (fun ρ w' h => h) ?_
    refine tele_val rfl (.pointer (some ⟨bb, ob + i, none⟩)) (fun _ _ _ => rfl) ?_ ?_
    ·rintro ρ w' he ⟨h22, h23, -⟩
     have e22 : ρ 22 = (.slice (some ⟨bb, ob, none⟩) lb.length d) := h22
     have e23 : ρ 23 = (.int .i64 (i : Int)) := h23
     simp [execOp, evR, e22, e23, hia, hib, hi0, add_at, go_sem]
    refine tele_val rfl (xb) (fun _ _ _ => rfl) ?_ ?_
    ·rintro ρ w' he ⟨h24, -⟩
     have e24 : ρ 24 = (.pointer (some ⟨bb, ob + i, none⟩)) := h24
     have c := (he.cell (p := ⟨bb, ob + i, none⟩) hbb').trans xcb
     simp [execOp, evR, e24, c, go_sem]
    refine tele_val rfl (strV (lb.getD i [])) (fun _ _ _ => rfl) ?_ ?_
    ·rintro ρ w' he ⟨h25, -⟩
     have e25 : ρ 25 = (xb) := h25
     have c := (hxb.ext he).str_ (P := Tryz.prog) 34 9 5 Tryz.underlying34 Tryz.underlying5 Tryz.underlying9
     simp [execOp, evR, e25, c]
    refine tele_val rfl (.bool (!(la.getD i [] == lb.getD i []))) (fun _ _ _ => rfl) ?_ ?_
    ·rintro ρ w' he ⟨h21, h26, -⟩
     have e21 : ρ 21 = (strV (la.getD i [])) := h21
     have e26 : ρ 26 = (strV (lb.getD i [])) := h26
     exact exec_neq_str rfl e21 e26
    refine tele_nil ?_
    rintro ρ w' hext ⟨f27, f26, f25, f24, f23, f22, f21, f20, f19, f18, f17, -⟩
    replace f17 : ρ 17 = (.slice (some ⟨ba, oa, none⟩) la.length c) := f17
    replace f18 : ρ 18 = (.int .i64 (i : Int)) := f18
    replace f19 : ρ 19 = (.pointer (some ⟨ba, oa + i, none⟩)) := f19
    replace f20 : ρ 20 = (xa) := f20
    replace f21 : ρ 21 = (strV (la.getD i [])) := f21
    replace f22 : ρ 22 = (.slice (some ⟨bb, ob, none⟩) lb.length d) := f22
    replace f23 : ρ 23 = (.int .i64 (i : Int)) := f23
    replace f24 : ρ 24 = (.pointer (some ⟨bb, ob + i, none⟩)) := f24
    replace f25 : ρ 25 = (xb) := f25
    replace f26 : ρ 26 = (strV (lb.getD i [])) := f26
    replace f27 : ρ 27 = (.bool (!(la.getD i [] == lb.getD i []))) := f27
    simp only [puts, Act.put, List.setIfInBounds_toArray, List.set_cons_zero, List.set_cons_succ]
    have hgl : la[i]? = some (la.getD i []) := by rw [List.getD_eq_getElem?_getD, List.getElem?_eq_getElem hlt]; rfl
    have hgr : lb[i]? = some (lb.getD i []) := by rw [List.getD_eq_getElem?_getD, List.getElem?_eq_getElem (by have := HL.out; omega)]; rfl
    cases hc : (la.getD i [] == lb.getD i [])
    ·rw [hc, Bool.not_false] at f27
     rw [f27]
     have HS := Lib.hid (show sameB la lb = false by
      unfold sameB
      rw [beq_eq_false_iff_ne]
      intro e
      rw [e] at hc
      simp at hc)
     clear hc hgl hgr
     go_wp2_with fail
     go_ret
     exact ⟨by rw [HS.out]; rfl, Ext.trans hx hext⟩
    ·rw [hc, Bool.not_true] at f27
     rw [f27]
     have HC := Lib.hid (show la.take (i + 1) = lb.take (i + 1) by
      rw [List.take_add_one, List.take_add_one, HT.out, hgl, hgr, beq_iff_eq.1 hc])
     clear hc hgl hgr
     go_wp2_with fail
     go_roundw
     case rel => exact ⟨i + 1, by omega, by go_num, HC.out, Ext.trans hx hext⟩
     case measure => simp [intOf]; omega
   ·have HS := Lib.hid (show sameB la lb = true by
     unfold sameB
     have hil : i = la.length := by omega
     rw [beq_iff_eq, ← List.take_of_length_le (l := la) (i := i) (by omega), htk, List.take_of_length_le (by have := HL.out; omega)])
    clear htk
    go_wp2_with fail
    go_ret
    exact ⟨by rw [HS.out]; rfl, hx⟩
 ·have HS := Lib.hid (show sameB la lb = false by unfold sameB; rw [beq_eq_false_iff_ne]; exact fun e => hl (by rw [e]))
  go_enter Tryz.func18, Tryz.ntmps18
  go_wp2_with fail
  go_ret
  exact ⟨by rw [HS.out]; rfl, Ext.refl _⟩
end Go.Proofs.YtagghghoimpofaaGreatDoor
