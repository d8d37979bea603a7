/-
  The walks of Decode, and of the document's own.
-/
import Derived.Test.YtjamopclfpmgjaaPolLives
namespace Go.Proofs.Ytjamopclfpmgjaa
open Go Go.RowKit Mono Num
set_option linter.unusedVariables false
set_option linter.unusedSimpArgs false

def pdecF (b : List UInt8) : Nat → Nat → List Grp → Option (List Grp × Nat)
  | 0, at_, acc => some (acc, at_)
  | k + 1, at_, acc =>
    if (ntext (b.drop at_) 12).2.2 ≠ 0 then none
    else if (nget (b.drop (at_ + (ntext (b.drop at_) 12).2.1))).2.2 ≠ 0 then none
    else pdecF b k (at_ + (ntext (b.drop at_) 12).2.1 + (nget (b.drop (at_ + (ntext (b.drop at_) 12).2.1))).2.1) (acc ++ [((ntext (b.drop at_) 12).1, ((nget (b.drop (at_ + (ntext (b.drop at_) 12).2.1))).1 : Int))])
def pdecE (b : List UInt8) : Option (List Grp × Nat) → List Grp × Nat
  | none => ([], 11)
  | some (l, at_) => if at_ ≠ b.length ∨ pgood l ≠ 0 then ([], 11) else (l, 0)
def pdec (b : List UInt8) : List Grp × Nat := if (nget b).2.2 ≠ 0 ∨ 4 < (nget b).1 then ([], 11) else pdecE b (pdecF b (nget b).1 (nget b).2.1 [])
theorem ntext_form {l : List UInt8} (h : (ntext l 12).2.2 = 0) : 0 < (ntext l 12).2.1 ∧ (ntext l 12).2.1 ≤ l.length ∧ (ntext l 12).1.length ≤ 12 ∧ nputText (ntext l 12).1 = l.take (ntext l 12).2.1 := by
  unfold ntext at h ⊢
  split at h
  · rename_i h0
    rw [if_pos h0]
    split at h
    · simp at h
    · rename_i h1
      rw [if_neg h1]
      split at h
      · simp at h
      · rename_i h2
        rw [if_neg h2]
        have hb := nget_form_back l (nget l).1 (nget l).2.1 (by rw [← h0])
        obtain ⟨b1, b2, b3, b4⟩ := hb
        generalize (nget l).1 = n at *
        generalize (nget l).2.1 = k at *
        dsimp only
        have hl : ((l.drop k).take n).length = n := by rw [List.length_take, List.length_drop]; omega
        refine ⟨by omega, by omega, by omega, ?_⟩
        unfold nputText
        rw [hl, b4, List.take_add]
  · rename_i h0
    exact absurd h h0
theorem ntext_nil : (ntext [] 12).2.2 = 10 := by decide
theorem nget_form {l : List UInt8} (h : (nget l).2.2 = 0) : 0 < (nget l).2.1 ∧ (nget l).2.1 ≤ l.length ∧ (nget l).1 ≤ 4611686018427387903 ∧ nput ((nget l).1 : Int) = l.take (nget l).2.1 :=
  nget_form_back l (nget l).1 (nget l).2.1 (by rw [← h])
theorem pcat_append (a b : List Grp) : pcat (a ++ b) = pcat a ++ pcat b := by simp [pcat]
theorem pdecF_form (b : List UInt8) : ∀ (k at_ : Nat) (acc l : List Grp) (at' : Nat), at_ ≤ b.length → pdecF b k at_ acc = some (l, at') →
    at' ≤ b.length ∧ at_ ≤ at' ∧ ∃ new, l = acc ++ new ∧ new.length = k ∧ pcat new = (b.drop at_).take (at' - at_)
  | 0, at_, acc, l, at', h, he => by
    unfold pdecF at he
    injection he with he
    injection he with h1 h2
    subst h1 h2
    exact ⟨h, Nat.le_refl _, [], by simp, rfl, by simp [pcat]⟩
  | k + 1, at_, acc, l, at', h, he => by
    unfold pdecF at he
    split at he
    · cases he
    · rename_i ht
      split at he
      · cases he
      · rename_i hg
        have ht' : (ntext (b.drop at_) 12).2.2 = 0 := by omega
        have hg' : (nget (b.drop (at_ + (ntext (b.drop at_) 12).2.1))).2.2 = 0 := by omega
        obtain ⟨t1, t2, t3, t4⟩ := ntext_form ht'
        obtain ⟨g1, g2, g3, g4⟩ := nget_form hg'
        rw [List.length_drop] at t2 g2
        obtain ⟨r1, r2, new, r3, r4, r5⟩ := pdecF_form b k _ _ l at' (by omega) he
        generalize hT : ntext (b.drop at_) 12 = t at *
        generalize hG : nget (b.drop (at_ + t.2.1)) = g at *
        refine ⟨r1, by omega, (t.1, (g.1 : Int)) :: new, by rw [r3]; simp, by simp [r4], ?_⟩
        have e : pcat ((t.1, (g.1 : Int)) :: new) = nputText t.1 ++ nput (g.1 : Int) ++ pcat new := by simp [pcat, gbytes]
        rw [e, t4, g4, r5]
        have e2 : at' - at_ = t.2.1 + (g.2.1 + (at' - (at_ + t.2.1 + g.2.1))) := by omega
        rw [e2, List.take_add, List.take_add, List.drop_drop, List.drop_drop, List.append_assoc]
theorem pdec_same {b : List UInt8} {l : List Grp} {at_ : Nat} (h0 : (nget b).2.2 = 0) (h : pdecF b (nget b).1 (nget b).2.1 [] = some (l, at_)) : (pbytes l = b ↔ at_ = b.length) ∧ at_ ≤ b.length := by
  obtain ⟨g1, g2, g3, g4⟩ := nget_form h0
  obtain ⟨r1, r2, new, r3, r4, r5⟩ := pdecF_form b _ _ [] l at_ g2 h
  rw [List.nil_append] at r3
  subst r3
  have e : pbytes l = b.take at_ := by
    unfold pbytes
    rw [r4, g4, r5, show at_ = (nget b).2.1 + (at_ - (nget b).2.1) by omega, List.take_add]
    congr 2
    omega
  refine ⟨⟨fun he => ?_, fun he => by rw [e, he, List.take_length]⟩, r1⟩
  rw [e] at he
  have := congrArg List.length he
  rw [List.length_take] at this
  omega
/-- Between two rounds. -/
structure DLoop (w : World) (b : List UInt8) (n k0 i at_ : Nat) (v : Value) (acc : List Grp) (wr : World) : Prop where
  row : wr.ownsRow w.heap.size 45 2 v acc.length (gcells acc)
  len : acc.length = i
  at_le : at_ ≤ b.length
  run : pdecF b n k0 [] = pdecF b (n - i) at_ acc
  ok : ∀ g ∈ acc, g.1.length ≤ 12 ∧ 0 ≤ g.2 ∧ g.2 ≤ 4611686018427387903
  ext : Ext w wr
theorem DLoop.bad1 {w : World} {b : List UInt8} {n k0 i at_ : Nat} {v : Value} {acc : List Grp} {wr : World} (h : DLoop w b n k0 i at_ v acc wr) (hi : i < n) (he : (ntext (b.drop at_) 12).2.2 ≠ 0) : pdecF b n k0 [] = none := by
  rw [h.run, show n - i = (n - i - 1) + 1 by omega, pdecF, if_pos he]
theorem DLoop.bad2 {w : World} {b : List UInt8} {n k0 i at_ : Nat} {v : Value} {acc : List Grp} {wr : World} (h : DLoop w b n k0 i at_ v acc wr) (hi : i < n) (h0 : (ntext (b.drop at_) 12).2.2 = 0)
    (he : (nget (b.drop (at_ + (ntext (b.drop at_) 12).2.1))).2.2 ≠ 0) : pdecF b n k0 [] = none := by
  rw [h.run, show n - i = (n - i - 1) + 1 by omega, pdecF, if_neg (by omega), if_pos he]
theorem DLoop.next {w : World} {b : List UInt8} {n k0 i at_ at1 at2 k : Nat} {v v' : Value} {acc : List Grp} {wr w1 : World} {t : List UInt8} {g : Nat} {ys : List Value} {tmp : Obj} (h : DLoop w b n k0 i at_ v acc wr) (hi : i < n)
    (ht : ntext (b.drop at_) 12 = (t, at1, 0)) (hg : nget (b.drop (at_ + at1)) = (g, at2, 0)) {w0 : World} (hx : Ext wr w0)
    (hown : w1.ownsRow w.heap.size 45 2 v' k ys) (hk : k = acc.length + 1) (hys : ys = gcells acc ++ [strV t, .int .i64 (g : Int)]) (hgr : (w0.alloc tmp).grownBy w1 v.ownBlock) :
    DLoop w b n k0 (i + 1) (at_ + at1 + at2) v' (acc ++ [(t, (g : Int))]) w1 := by
  subst hk hys
  have h1 := ntext_form (l := b.drop at_) (by rw [ht])
  have h2 := nget_form (l := b.drop (at_ + at1)) (by rw [hg])
  rw [ht] at h1
  rw [hg] at h2
  dsimp only at h1 h2
  rw [List.length_drop] at h1 h2
  have hat := h.at_le
  have hs := h.ext.size
  have hs0 := hx.size
  refine ⟨?_, by rw [List.length_append, h.len]; rfl, by omega, ?_, ?_, ?_⟩
  · rw [List.length_append, gcells_snoc]
    exact hown
  · rw [h.run, show n - i = (n - (i + 1)) + 1 by omega, pdecF, ht]
    dsimp only
    rw [if_neg (by simp), hg]
    dsimp only
    rw [if_neg (by simp)]
  · intro x hx
    rcases List.mem_append.1 hx with hx | hx
    · exact h.ok x hx
    · rw [List.mem_singleton.1 hx]
      exact ⟨h1.2.2.1, by dsimp only; omega, by dsimp only; omega⟩
  · refine Below.grown (Ext.trans (Ext.trans h.ext hx) (ext_alloc _ tmp)) hgr (by simp; omega) (fun j hj => ?_)
    exact (row_ge h.row j hj).1
theorem DLoop.gs {w : World} {b : List UInt8} {n k0 i at_ : Nat} {v : Value} {acc : List Grp} {wr : World} (h : DLoop w b n k0 i at_ v acc wr) : Gs wr v acc :=
  gs_of_row h.row fun g hg => by
    have := h.ok g hg
    exact ⟨by unfold maxLen; omega, by unfold In64; omega⟩

set_option maxHeartbeats 4000000 in
theorem polDecode_any (v : Value) (b : List UInt8) (w : World) (hv : Bs w v b) (hbl : b.length ≤ 1000000) :
    Calls Try.prog 22 #[v] w fun e w' => ∃ r, e = .returned (.tuple #[r, .int .i64 ((pdec b).2 : Int)]) ∧ Gs w' r (pdec b).1 ∧ Ext w w' := by
  have hV := hv
  obtain ⟨A, c, rfl, h1, h2, h3, _⟩ := hv.open_
  obtain ⟨i0, hi0, hz0, hz1, hz2⟩ := info_parts infoGrp
  unfold maxLen at h2
  have HO := Lib.hid (numGet_any (.slice A b.length c) b w hV)
  have hform := nget_form (l := b)
  obtain ⟨n, k0, f, hn⟩ : ∃ n k0 f, nget b = (n, k0, f) := ⟨_, _, _, rfl⟩
  rw [hn] at HO hform
  dsimp only at HO hform
  by_cases hf : f = 0
  · subst hf
    obtain ⟨q1, q2, q3, _⟩ := hform rfl
    by_cases hn4 : 4 < n
    · have HR := Lib.hid (show pdec b = ([], 11) by unfold pdec; rw [hn, if_pos (.inr hn4)])
      clear hn hform
      go_enter Try.func22, Try.ntmps22
      go_wp2_with fail
      refine HO.out.mono ?_
      rintro e w1 ⟨rfl, rfl⟩
      go_wp2_with fail
      go_ret2
      exact ⟨_, by rw [HR.out]; rfl, by rw [HR.out]; exact Gs.nil_ _, Ext.refl _⟩
    · have HP := Lib.hid (show pdec b = pdecE b (pdecF b n k0 []) by unfold pdec; rw [hn, if_neg (by simp; omega)])
      have HH := Lib.hid hn
      have hl0 : DLoop w b n k0 0 k0 (.slice none 0 0) [] w := ⟨World.ownsRow_nil _ _ _ _, rfl, q2, by rw [Nat.sub_zero], by simp, Ext.refl _⟩
      clear hn hform
      go_enter Try.func22, Try.ntmps22
      go_wp2_with fail
      refine HO.out.mono ?_
      rintro e w1 ⟨rfl, rfl⟩
      clear HO
      go_wp2_with fail
      go_loopw [5, 7, 25] (fun at_ v i wr => ∃ (k p : Nat) (acc : List Grp), k ≤ n ∧ i = .int .i64 k ∧ at_ = .int .i64 p ∧ DLoop w b n k0 k p v acc wr) (fun _ _ i _ => n - (intOf i).toNat)
      case atStart => exact ⟨0, k0, [], Nat.zero_le _, rfl, rfl, hl0⟩
      case round =>
        clear hl0
        obtain ⟨i, at_, acc, hi, rfl, rfl, hL⟩ := hrel
        have hx := hL.ext
        have hat := hL.at_le
        have hrow := hL.row
        have hal4 : acc.length ≤ 4 := by have := hL.len; omega
        by_cases hlt : i < n
        · have hd := (hV.ext hx).from_ (k := at_) hat
          have HL := Lib.hid hL
          by_cases hca : c ≤ at_
          · rw [if_pos (show c = at_ by omega), show c - at_ = 0 by omega] at hd
            have hdn : b.drop at_ = [] := List.drop_eq_nil_of_le (by omega)
            have HO := Lib.hid (numGetText_any _ (b.drop at_) 12 wr hd (by omega))
            have HR := Lib.hid (show pdec b = ([], 11) by rw [HP.out, hL.bad1 hlt (by rw [hdn, ntext_nil]; decide)]; rfl)
            have hne : (ntext (b.drop at_) 12).2.2 = 10 := by rw [hdn, ntext_nil]
            generalize ntext (b.drop at_) 12 = t at *
            obtain ⟨t1, t2, t3⟩ := t
            dsimp only at hne HO
            subst hne
            clear hd hdn hL hrow
            go_wp2_with fail
            refine HO.out.mono ?_
            rintro e w2 ⟨rfl, x2⟩
            go_wp2_with fail
            go_ret2
            exact ⟨_, by rw [HR.out]; rfl, by rw [HR.out]; exact Gs.nil_ _, Ext.trans hx x2⟩
          · rw [if_neg (show ¬ c = at_ by omega)] at hd
            have HO := Lib.hid (numGetText_any _ (b.drop at_) 12 wr hd (by omega))
            have hb1 := hL.bad1 hlt
            have hb2 := hL.bad2 hlt
            have hform := ntext_form (l := b.drop at_)
            rw [List.length_drop] at hform
            obtain ⟨t1, t2, t3, ht⟩ : ∃ t1 t2 t3, ntext (b.drop at_) 12 = (t1, t2, t3) := ⟨_, _, _, rfl⟩
            rw [ht] at HO hb1 hb2 hform
            dsimp only at HO hb1 hb2 hform
            clear hd
            by_cases ht3 : t3 = 0
            · subst ht3
              obtain ⟨q1, q2, q3, _⟩ := hform rfl
              have HT := Lib.hid ht
              clear ht hb1 hform hL
              have HB2 := Lib.hid (fun h => hb2 rfl h)
              clear hb2
              have hd1 : ∀ w2, Ext wr w2 → Bs w2 (.slice (if c = at_ + t2 then A else A.map (·.add (at_ + t2))) (b.length - (at_ + t2)) (c - (at_ + t2))) (b.drop (at_ + t2)) := fun w2 x2 => ((hV.ext hx).ext x2).from_ (by omega)
              by_cases hcb : c ≤ at_ + t2
              · have hdn : b.drop (at_ + t2) = [] := List.drop_eq_nil_of_le (by omega)
                rw [hdn] at hd1 HB2
                have HR := Lib.hid (show pdec b = ([], 11) by rw [HP.out, HB2.out (by decide)]; rfl)
                have HG := Lib.hid (fun w2 x2 => numGet_any _ [] w2 (hd1 w2 x2))
                rw [if_pos (show c = at_ + t2 by omega), show c - (at_ + t2) = 0 by omega] at HG
                have hcb2 : at_ + t2 ≤ c := by omega
                clear hd1 hrow
                go_wp2_with fail
                refine HO.out.mono ?_
                rintro e w2 ⟨rfl, x2⟩
                go_wp2_with fail
                refine (HG.out _ x2).mono ?_
                rintro e w3 ⟨rfl, rfl⟩
                go_wp2_with fail
                go_ret2
                exact ⟨_, by rw [HR.out]; rfl, by rw [HR.out]; exact Gs.nil_ _, Ext.trans hx x2⟩
              · have HG := Lib.hid (fun w2 x2 => numGet_any _ (b.drop (at_ + t2)) w2 (hd1 w2 x2))
                rw [if_neg (show ¬ c = at_ + t2 by omega)] at HG
                have hgf := nget_form (l := b.drop (at_ + t2))
                rw [List.length_drop] at hgf
                obtain ⟨g1, g2, g3, hg⟩ : ∃ g1 g2 g3, nget (b.drop (at_ + t2)) = (g1, g2, g3) := ⟨_, _, _, rfl⟩
                rw [hg] at HG HB2 hgf
                dsimp only at HG HB2 hgf
                clear hd1
                by_cases hg3 : g3 = 0
                · subst hg3
                  obtain ⟨p1, p2, p3, _⟩ := hgf rfl
                  have HGG := Lib.hid hg
                  clear hg hgf
                  go_wp2_with fail
                  refine HO.out.mono ?_
                  rintro e w2 ⟨rfl, x2⟩
                  go_wp2_with fail
                  refine (HG.out _ x2).mono ?_
                  rintro e w3 ⟨rfl, rfl⟩
                  have hrow2 : w2.ownsRow w.heap.size 45 2 _ acc.length (gcells acc) := hrow.kept (row := none) ⟨x2.os, x2.tape, x2.output, x2.size, fun k hk _ => x2.block k hk⟩ (by cases Value.ownBlock _ <;> simp)
                  have hs2 := (Ext.trans hx x2).size
                  unfold strV
                  go_wp2_with (at_builtin; refine wpList_append_own_at _ rfl (.tmp 53) (.tmp 57) 22 rfl w.heap.size 45 i0 (.agg #[.string ⟨#[]⟩, .int .i64 0]) 2 24 Try.underlying22 hi0 hz0 hz1 hz2 rfl (by decide) _ _ _ rfl (hrow2.alloc _) ⟨w2.heap.size, 0, none⟩ 1 1 [strV t1, .int .i64 (g1 : Int)] rfl rfl (two_new _ _ _ _) (by simp [Value.oneCell', strV]) (by unfold maxLen; omega) (by omega) (by simp; omega) ?_; intro v' w4 hown' hgrow _ _)
                  have HE := HL.out.next hlt HT.out HGG.out x2 hown' rfl rfl hgrow
                  clear hown' hgrow hrow2 hrow
                  go_roundw
                  case rel => exact ⟨i + 1, at_ + t2 + g2, _, by omega, by go_num, by go_num, HE⟩
                  case measure => simp [intOf]; omega
                · have HR := Lib.hid (show pdec b = ([], 11) by rw [HP.out, HB2.out hg3]; rfl)
                  have hb3 : ((g3 : Int) != 0) = true := by rw [bne_iff_ne]; omega
                  clear hg hgf hg3 hrow
                  go_wp2_with fail
                  refine HO.out.mono ?_
                  rintro e w2 ⟨rfl, x2⟩
                  go_wp2_with fail
                  refine (HG.out _ x2).mono ?_
                  rintro e w3 ⟨rfl, rfl⟩
                  go_wp2_with fail
                  go_ret2
                  exact ⟨_, by rw [HR.out]; rfl, by rw [HR.out]; exact Gs.nil_ _, Ext.trans hx x2⟩
            · have HR := Lib.hid (show pdec b = ([], 11) by rw [HP.out, hb1 ht3]; rfl)
              have hb3 : ((t3 : Int) != 0) = true := by rw [bne_iff_ne]; omega
              clear ht hb1 hb2 hform hL ht3 hrow
              go_wp2_with fail
              refine HO.out.mono ?_
              rintro e w2 ⟨rfl, x2⟩
              go_wp2_with fail
              go_ret2
              exact ⟨_, by rw [HR.out]; rfl, by rw [HR.out]; exact Gs.nil_ _, Ext.trans hx x2⟩

        · have hin : i = n := by omega
          subst hin
          have hgs := hL.gs
          have hrun := hL.run
          rw [show i - i = 0 by omega, pdecF] at hrun
          obtain ⟨A', c', rfl, _, _, _, _⟩ := hgs.at_
          by_cases hal : at_ = b.length
          · subst hal
            obtain ⟨e, hpe⟩ : ∃ e, pgood acc = e := ⟨_, rfl⟩
            have HG := Lib.hid (polGood_any _ acc wr hgs)
            rw [hpe] at HG
            by_cases he0 : e = 0
            · subst he0
              have HR := Lib.hid (show pdec b = (acc, 0) by rw [HP.out, hrun]; unfold pdecE; dsimp only; rw [if_neg (by simp [hpe])])
              clear hpe hrun hL hrow
              go_wp2_with fail
              refine HG.out.mono ?_
              rintro e w4 ⟨rfl, x4⟩
              go_wp2_with fail
              go_ret2
              exact ⟨_, by rw [HR.out]; rfl, by rw [HR.out]; exact hgs.ext x4, Ext.trans hx x4⟩
            · have HR := Lib.hid (show pdec b = ([], 11) by rw [HP.out, hrun]; unfold pdecE; dsimp only; rw [if_pos (.inr (by rw [hpe]; exact he0))])
              have he1 : ((e : Int) != 0) = true := by rw [bne_iff_ne]; omega
              clear hpe he0 hrun hL hrow
              go_wp2_with fail
              refine HG.out.mono ?_
              rintro e w4 ⟨rfl, x4⟩
              go_wp2_with fail
              go_ret2
              exact ⟨_, by rw [HR.out]; rfl, by rw [HR.out]; exact Gs.nil_ _, Ext.trans hx x4⟩
          · have HR := Lib.hid (show pdec b = ([], 11) by rw [HP.out, hrun]; unfold pdecE; dsimp only; rw [if_pos (.inl hal)])
            have he1 : ((at_ : Int) != (b.length : Int)) = true := by rw [bne_iff_ne]; omega
            clear hal hrun hL hrow
            go_wp2_with fail
            go_ret2
            exact ⟨_, by rw [HR.out]; rfl, by rw [HR.out]; exact Gs.nil_ _, hx⟩
  · have HR := Lib.hid (show pdec b = ([], 11) by unfold pdec; rw [hn, if_pos (.inl hf)])
    have he1 : ((f : Int) != 0) = true := by rw [bne_iff_ne]; omega
    clear hn hform hf
    go_enter Try.func22, Try.ntmps22
    go_wp2_with fail
    refine HO.out.mono ?_
    rintro e w1 ⟨rfl, rfl⟩
    go_wp2_with fail
    go_ret2
    exact ⟨_, by rw [HR.out]; rfl, by rw [HR.out]; exact Gs.nil_ _, Ext.refl _⟩

set_option maxHeartbeats 4000000 in
theorem refDecode_any (v : Value) (b : List UInt8) (w : World) (hv : Bs w v b) (hbl : b.length ≤ 1000000) :
    Calls Try.prog 23 #[v] w fun e w' => ∃ r, e = .returned (.tuple #[r, .int .i64 ((pdec b).2 : Int)]) ∧ Gs w' r (pdec b).1 ∧ Ext w w' := by
  have hV := hv
  obtain ⟨A, c, rfl, h1, h2, h3, _⟩ := hv.open_
  obtain ⟨i0, hi0, hz0, hz1, hz2⟩ := info_parts infoGrp
  unfold maxLen at h2
  have HO := Lib.hid (refGet_any (.slice A b.length c) b w hV)
  have hform := nget_form (l := b)
  obtain ⟨n, k0, f, hn⟩ : ∃ n k0 f, nget b = (n, k0, f) := ⟨_, _, _, rfl⟩
  rw [hn] at HO hform
  dsimp only at HO hform
  by_cases hf : f = 0
  · subst hf
    obtain ⟨q1, q2, q3, _⟩ := hform rfl
    by_cases hn4 : 4 < n
    · have HR := Lib.hid (show pdec b = ([], 11) by unfold pdec; rw [hn, if_pos (.inr hn4)])
      clear hn hform
      go_enter Try.func23, Try.ntmps23
      go_wp2_with fail
      refine HO.out.mono ?_
      rintro e w1 ⟨rfl, rfl⟩
      go_wp2_with fail
      go_ret2
      exact ⟨_, by rw [HR.out]; rfl, by rw [HR.out]; exact Gs.nil_ _, Ext.refl _⟩
    · have HP := Lib.hid (show pdec b = pdecE b (pdecF b n k0 []) by unfold pdec; rw [hn, if_neg (by simp; omega)])
      have HH := Lib.hid hn
      have hl0 : DLoop w b n k0 0 k0 (.slice none 0 0) [] w := ⟨World.ownsRow_nil _ _ _ _, rfl, q2, by rw [Nat.sub_zero], by simp, Ext.refl _⟩
      clear hn hform
      go_enter Try.func23, Try.ntmps23
      go_wp2_with fail
      refine HO.out.mono ?_
      rintro e w1 ⟨rfl, rfl⟩
      clear HO
      go_wp2_with fail
      go_loopw [5, 7, 8] (fun at_ v i wr => ∃ (k p : Nat) (acc : List Grp), k ≤ n ∧ i = .int .i64 k ∧ at_ = .int .i64 p ∧ DLoop w b n k0 k p v acc wr) (fun _ _ i _ => n - (intOf i).toNat)
      case atStart => exact ⟨0, k0, [], Nat.zero_le _, rfl, rfl, hl0⟩
      case round =>
        clear hl0
        obtain ⟨i, at_, acc, hi, rfl, rfl, hL⟩ := hrel
        have hx := hL.ext
        have hat := hL.at_le
        have hrow := hL.row
        have hal4 : acc.length ≤ 4 := by have := hL.len; omega
        by_cases hlt : i < n
        · have hd := (hV.ext hx).from_ (k := at_) hat
          have HL := Lib.hid hL
          by_cases hca : c ≤ at_
          · rw [if_pos (show c = at_ by omega), show c - at_ = 0 by omega] at hd
            have hdn : b.drop at_ = [] := List.drop_eq_nil_of_le (by omega)
            have HO := Lib.hid (refGetText_any _ (b.drop at_) 12 wr hd (by omega))
            have HR := Lib.hid (show pdec b = ([], 11) by rw [HP.out, hL.bad1 hlt (by rw [hdn, ntext_nil]; decide)]; rfl)
            have hne : (ntext (b.drop at_) 12).2.2 = 10 := by rw [hdn, ntext_nil]
            generalize ntext (b.drop at_) 12 = t at *
            obtain ⟨t1, t2, t3⟩ := t
            dsimp only at hne HO
            subst hne
            clear hd hdn hL hrow
            go_wp2_with fail
            refine HO.out.mono ?_
            rintro e w2 ⟨rfl, x2⟩
            go_wp2_with fail
            go_ret2
            exact ⟨_, by rw [HR.out]; rfl, by rw [HR.out]; exact Gs.nil_ _, Ext.trans hx x2⟩
          · rw [if_neg (show ¬ c = at_ by omega)] at hd
            have HO := Lib.hid (refGetText_any _ (b.drop at_) 12 wr hd (by omega))
            have hb1 := hL.bad1 hlt
            have hb2 := hL.bad2 hlt
            have hform := ntext_form (l := b.drop at_)
            rw [List.length_drop] at hform
            obtain ⟨t1, t2, t3, ht⟩ : ∃ t1 t2 t3, ntext (b.drop at_) 12 = (t1, t2, t3) := ⟨_, _, _, rfl⟩
            rw [ht] at HO hb1 hb2 hform
            dsimp only at HO hb1 hb2 hform
            clear hd
            by_cases ht3 : t3 = 0
            · subst ht3
              obtain ⟨q1, q2, q3, _⟩ := hform rfl
              have HT := Lib.hid ht
              clear ht hb1 hform hL
              have HB2 := Lib.hid (fun h => hb2 rfl h)
              clear hb2
              have hd1 : ∀ w2, Ext wr w2 → Bs w2 (.slice (if c = at_ + t2 then A else A.map (·.add (at_ + t2))) (b.length - (at_ + t2)) (c - (at_ + t2))) (b.drop (at_ + t2)) := fun w2 x2 => ((hV.ext hx).ext x2).from_ (by omega)
              by_cases hcb : c ≤ at_ + t2
              · have hdn : b.drop (at_ + t2) = [] := List.drop_eq_nil_of_le (by omega)
                rw [hdn] at hd1 HB2
                have HR := Lib.hid (show pdec b = ([], 11) by rw [HP.out, HB2.out (by decide)]; rfl)
                have HG := Lib.hid (fun w2 x2 => refGet_any _ [] w2 (hd1 w2 x2))
                rw [if_pos (show c = at_ + t2 by omega), show c - (at_ + t2) = 0 by omega] at HG
                have hcb2 : at_ + t2 ≤ c := by omega
                clear hd1 hrow
                go_wp2_with fail
                refine HO.out.mono ?_
                rintro e w2 ⟨rfl, x2⟩
                go_wp2_with fail
                refine (HG.out _ x2).mono ?_
                rintro e w3 ⟨rfl, rfl⟩
                go_wp2_with fail
                go_ret2
                exact ⟨_, by rw [HR.out]; rfl, by rw [HR.out]; exact Gs.nil_ _, Ext.trans hx x2⟩
              · have HG := Lib.hid (fun w2 x2 => refGet_any _ (b.drop (at_ + t2)) w2 (hd1 w2 x2))
                rw [if_neg (show ¬ c = at_ + t2 by omega)] at HG
                have hgf := nget_form (l := b.drop (at_ + t2))
                rw [List.length_drop] at hgf
                obtain ⟨g1, g2, g3, hg⟩ : ∃ g1 g2 g3, nget (b.drop (at_ + t2)) = (g1, g2, g3) := ⟨_, _, _, rfl⟩
                rw [hg] at HG HB2 hgf
                dsimp only at HG HB2 hgf
                clear hd1
                by_cases hg3 : g3 = 0
                · subst hg3
                  obtain ⟨p1, p2, p3, _⟩ := hgf rfl
                  have HGG := Lib.hid hg
                  clear hg hgf
                  go_wp2_with fail
                  refine HO.out.mono ?_
                  rintro e w2 ⟨rfl, x2⟩
                  go_wp2_with fail
                  refine (HG.out _ x2).mono ?_
                  rintro e w3 ⟨rfl, rfl⟩
                  have hrow2 : w2.ownsRow w.heap.size 45 2 _ acc.length (gcells acc) := hrow.kept (row := none) ⟨x2.os, x2.tape, x2.output, x2.size, fun k hk _ => x2.block k hk⟩ (by cases Value.ownBlock _ <;> simp)
                  have hs2 := (Ext.trans hx x2).size
                  unfold strV
                  go_wp2_with (at_builtin; refine wpList_append_own_at _ rfl (.tmp 56) (.tmp 60) 22 rfl w.heap.size 45 i0 (.agg #[.string ⟨#[]⟩, .int .i64 0]) 2 24 Try.underlying22 hi0 hz0 hz1 hz2 rfl (by decide) _ _ _ rfl (hrow2.alloc _) ⟨w2.heap.size, 0, none⟩ 1 1 [strV t1, .int .i64 (g1 : Int)] rfl rfl (two_new _ _ _ _) (by simp [Value.oneCell', strV]) (by unfold maxLen; omega) (by omega) (by simp; omega) ?_; intro v' w4 hown' hgrow _ _)
                  have HE := HL.out.next hlt HT.out HGG.out x2 hown' rfl rfl hgrow
                  clear hown' hgrow hrow2 hrow
                  go_roundw
                  case rel => exact ⟨i + 1, at_ + t2 + g2, _, by omega, by go_num, by go_num, HE⟩
                  case measure => simp [intOf]; omega
                · have HR := Lib.hid (show pdec b = ([], 11) by rw [HP.out, HB2.out hg3]; rfl)
                  have hb3 : ((g3 : Int) != 0) = true := by rw [bne_iff_ne]; omega
                  clear hg hgf hg3 hrow
                  go_wp2_with fail
                  refine HO.out.mono ?_
                  rintro e w2 ⟨rfl, x2⟩
                  go_wp2_with fail
                  refine (HG.out _ x2).mono ?_
                  rintro e w3 ⟨rfl, rfl⟩
                  go_wp2_with fail
                  go_ret2
                  exact ⟨_, by rw [HR.out]; rfl, by rw [HR.out]; exact Gs.nil_ _, Ext.trans hx x2⟩
            · have HR := Lib.hid (show pdec b = ([], 11) by rw [HP.out, hb1 ht3]; rfl)
              have hb3 : ((t3 : Int) != 0) = true := by rw [bne_iff_ne]; omega
              clear ht hb1 hb2 hform hL ht3 hrow
              go_wp2_with fail
              refine HO.out.mono ?_
              rintro e w2 ⟨rfl, x2⟩
              go_wp2_with fail
              go_ret2
              exact ⟨_, by rw [HR.out]; rfl, by rw [HR.out]; exact Gs.nil_ _, Ext.trans hx x2⟩

        · have hin : i = n := by omega
          subst hin
          have hgs := hL.gs
          have hrun := hL.run
          rw [show i - i = 0 by omega, pdecF] at hrun
          have hsame := pdec_same (b := b) (by rw [HH.out]) (by rw [HH.out]; exact hrun)
          obtain ⟨A', c', rfl, _, _, _, _⟩ := hgs.at_
          obtain ⟨e, hpe⟩ : ∃ e, pgood acc = e := ⟨_, rfl⟩
          have HG := Lib.hid (fun (w2 : World) (x2 : Ext wr w2) => refGood_any _ acc w2 (hgs.ext x2))
          rw [hpe] at HG
          by_cases he0 : e = 0
          · subst he0
            have HPE := Lib.hid hpe
            by_cases hal : at_ = b.length
            · have HR := Lib.hid (show pdec b = (acc, 0) by rw [HP.out, hrun]; unfold pdecE; dsimp only; rw [if_neg (by simp [hpe, hal])])
              have HEQ := Lib.hid (hsame.1.2 hal)
              clear hpe hrun hL hrow hsame hal
              go_wp2_with fail
              refine wp_region_mono (by kernel_rfl) (by kernel_rfl) ?_
              refine tele_move rfl (.inl rfl) rfl (isV (.slice A' acc.length c')) (fun ρ w' h => h) ?_
              refine tele_call rfl rfl Try.func19 (by kernel_rfl) (isV (.int .i64 ((0 : Nat) : Int))) (fun _ _ _ => rfl) ?_ ?_
              · rintro ρ w' he ⟨h62, -⟩
                have e62 : ρ 62 = (.slice A' acc.length c') := h62
                simp only [evR, List.map_toArray, List.map_cons, List.map_nil, e62]
                refine (HG.out _ he).mono ?_
                rintro e w'' ⟨rfl, x4⟩
                exact ⟨_, rfl, x4, rfl⟩
              refine tele_val rfl (.bool false) (fun _ _ _ => rfl) ?_ ?_
              · rintro ρ w' he ⟨h63, -⟩
                have e63 : ρ 63 = (.int .i64 ((0 : Nat) : Int)) := h63
                simp [execOp, evR, e63, go_sem]
              refine tele_move rfl (.inl rfl) rfl (isV (.bool false)) (fun ρ w' h => h) ?_
              refine tele_val rfl ((.slice A' acc.length c')) (fun ρ w' hk => by obtain ⟨_, hg, -⟩ := hk; have eg : ρ 65 = (.bool false) := hg; simp [wantedR, Region.wanted, asBoolR, eg]) ?_ ?_
              · rintro ρ w' he ⟨h7, -⟩
                have e7 : ρ 7 = (.slice A' acc.length c') := h7
                simp [execOp, evR, e7]
              refine tele_call rfl rfl Try.func32 (by kernel_rfl) (isBs (pbytes acc)) (fun ρ w' hk => by obtain ⟨_, hg, -⟩ := hk; have eg : ρ 65 = (.bool false) := hg; simp [wantedR, Region.wanted, asBoolR, eg]) ?_ ?_
              · rintro ρ w' he ⟨h66, -⟩
                have e66 : ρ 66 = (.slice A' acc.length c') := h66
                simp only [evR, List.map_toArray, List.map_cons, List.map_nil, e66]
                refine (refBytes_any _ acc _ (hgs.ext he) HPE.out).mono ?_
                rintro e w'' ⟨r, rfl, h, x4⟩
                exact ⟨_, rfl, x4, h.bs⟩
              refine tele_val rfl (strV (pbytes acc)) (fun ρ w' hk => by obtain ⟨_, hg, -⟩ := hk; have eg : ρ 65 = (.bool false) := hg; simp [wantedR, Region.wanted, asBoolR, eg]) ?_ ?_
              · rintro ρ w' he ⟨h67, -⟩
                have e67 : Bs w' (ρ 67) (pbytes acc) := h67
                have c := e67.str_ (P := Try.prog) 47 9 5 Try.underlying47 Try.underlying5 Try.underlying9
                simp [execOp, evR, c]
              refine tele_val rfl ((.slice A b.length c)) (fun ρ w' hk => by obtain ⟨_, hg, -⟩ := hk; have eg : ρ 65 = (.bool false) := hg; simp [wantedR, Region.wanted, asBoolR, eg]) ?_ ?_
              · rintro ρ w' he ⟨h0, -⟩
                have e0 : ρ 0 = (.slice A b.length c) := h0
                simp [execOp, evR, e0]
              refine tele_val rfl (strV (b)) (fun ρ w' hk => by obtain ⟨_, hg, -⟩ := hk; have eg : ρ 65 = (.bool false) := hg; simp [wantedR, Region.wanted, asBoolR, eg]) ?_ ?_
              · rintro ρ w' he ⟨h69, -⟩
                have e69 : ρ 69 = (.slice A b.length c) := h69
                have c := ((hV.ext hx).ext he).str_ (P := Try.prog) 47 9 5 Try.underlying47 Try.underlying5 Try.underlying9
                simp [execOp, evR, e69, c]
              refine tele_val rfl (.bool false) (fun ρ w' hk => by obtain ⟨_, _, hg, -⟩ := hk; have eg : ρ 65 = (.bool false) := hg; simp [wantedR, Region.wanted, asBoolR, eg]) ?_ ?_
              · rintro ρ w' he ⟨h68, h70, -⟩
                have e68 : ρ 68 = (strV (pbytes acc)) := h68
                have e70 : ρ 70 = (strV (b)) := h70
                exact (exec_neq_str rfl e68 e70).trans (by simp [HEQ.out])
              refine tele_val rfl (.bool false) (fun _ _ _ => rfl) ?_ ?_
              · rintro ρ w' he ⟨h65, h71, -⟩
                have e65 : ρ 65 = (.bool false) := h65
                have e71 : ρ 71 = (.bool false) := h71
                simp [execOp, evR, e65, e71, go_sem]
              refine tele_nil ?_
              rintro ρ w' hext ⟨f72, f71, f70, f69, f68, f67, f66, f65, f64, f63, f62, -⟩
              replace f62 : ρ 62 = (.slice A' acc.length c') := f62
              replace f63 : ρ 63 = (.int .i64 ((0 : Nat) : Int)) := f63
              replace f64 : ρ 64 = (.bool false) := f64
              replace f65 : ρ 65 = (.bool false) := f65
              replace f66 : ρ 66 = (.slice A' acc.length c') := f66
              replace f67 : Bs w' (ρ 67) (pbytes acc) := f67
              replace f68 : ρ 68 = (strV (pbytes acc)) := f68
              replace f69 : ρ 69 = (.slice A b.length c) := f69
              replace f70 : ρ 70 = (strV (b)) := f70
              replace f71 : ρ 71 = (.bool false) := f71
              replace f72 : ρ 72 = (.bool false) := f72
              simp only [puts, Act.put, List.setIfInBounds_toArray, List.set_cons_zero, List.set_cons_succ]
              rw [f72]
              go_wp2_with fail
              go_ret2
              exact ⟨_, by rw [HR.out]; rfl, by rw [HR.out]; exact hgs.ext hext, Ext.trans hx hext⟩
            · have HR := Lib.hid (show pdec b = ([], 11) by rw [HP.out, hrun]; unfold pdecE; dsimp only; rw [if_pos (.inl hal)])
              have HEQ := Lib.hid (show (pbytes acc == b) = false by rw [beq_eq_false_iff_ne]; exact fun h => hal (hsame.1.1 h))
              clear hpe hrun hL hrow hsame hal
              go_wp2_with fail
              refine wp_region_mono (by kernel_rfl) (by kernel_rfl) ?_
              refine tele_move rfl (.inl rfl) rfl (isV (.slice A' acc.length c')) (fun ρ w' h => h) ?_
              refine tele_call rfl rfl Try.func19 (by kernel_rfl) (isV (.int .i64 ((0 : Nat) : Int))) (fun _ _ _ => rfl) ?_ ?_
              · rintro ρ w' he ⟨h62, -⟩
                have e62 : ρ 62 = (.slice A' acc.length c') := h62
                simp only [evR, List.map_toArray, List.map_cons, List.map_nil, e62]
                refine (HG.out _ he).mono ?_
                rintro e w'' ⟨rfl, x4⟩
                exact ⟨_, rfl, x4, rfl⟩
              refine tele_val rfl (.bool false) (fun _ _ _ => rfl) ?_ ?_
              · rintro ρ w' he ⟨h63, -⟩
                have e63 : ρ 63 = (.int .i64 ((0 : Nat) : Int)) := h63
                simp [execOp, evR, e63, go_sem]
              refine tele_move rfl (.inl rfl) rfl (isV (.bool false)) (fun ρ w' h => h) ?_
              refine tele_val rfl ((.slice A' acc.length c')) (fun ρ w' hk => by obtain ⟨_, hg, -⟩ := hk; have eg : ρ 65 = (.bool false) := hg; simp [wantedR, Region.wanted, asBoolR, eg]) ?_ ?_
              · rintro ρ w' he ⟨h7, -⟩
                have e7 : ρ 7 = (.slice A' acc.length c') := h7
                simp [execOp, evR, e7]
              refine tele_call rfl rfl Try.func32 (by kernel_rfl) (isBs (pbytes acc)) (fun ρ w' hk => by obtain ⟨_, hg, -⟩ := hk; have eg : ρ 65 = (.bool false) := hg; simp [wantedR, Region.wanted, asBoolR, eg]) ?_ ?_
              · rintro ρ w' he ⟨h66, -⟩
                have e66 : ρ 66 = (.slice A' acc.length c') := h66
                simp only [evR, List.map_toArray, List.map_cons, List.map_nil, e66]
                refine (refBytes_any _ acc _ (hgs.ext he) HPE.out).mono ?_
                rintro e w'' ⟨r, rfl, h, x4⟩
                exact ⟨_, rfl, x4, h.bs⟩
              refine tele_val rfl (strV (pbytes acc)) (fun ρ w' hk => by obtain ⟨_, hg, -⟩ := hk; have eg : ρ 65 = (.bool false) := hg; simp [wantedR, Region.wanted, asBoolR, eg]) ?_ ?_
              · rintro ρ w' he ⟨h67, -⟩
                have e67 : Bs w' (ρ 67) (pbytes acc) := h67
                have c := e67.str_ (P := Try.prog) 47 9 5 Try.underlying47 Try.underlying5 Try.underlying9
                simp [execOp, evR, c]
              refine tele_val rfl ((.slice A b.length c)) (fun ρ w' hk => by obtain ⟨_, hg, -⟩ := hk; have eg : ρ 65 = (.bool false) := hg; simp [wantedR, Region.wanted, asBoolR, eg]) ?_ ?_
              · rintro ρ w' he ⟨h0, -⟩
                have e0 : ρ 0 = (.slice A b.length c) := h0
                simp [execOp, evR, e0]
              refine tele_val rfl (strV (b)) (fun ρ w' hk => by obtain ⟨_, hg, -⟩ := hk; have eg : ρ 65 = (.bool false) := hg; simp [wantedR, Region.wanted, asBoolR, eg]) ?_ ?_
              · rintro ρ w' he ⟨h69, -⟩
                have e69 : ρ 69 = (.slice A b.length c) := h69
                have c := ((hV.ext hx).ext he).str_ (P := Try.prog) 47 9 5 Try.underlying47 Try.underlying5 Try.underlying9
                simp [execOp, evR, e69, c]
              refine tele_val rfl (.bool true) (fun ρ w' hk => by obtain ⟨_, _, hg, -⟩ := hk; have eg : ρ 65 = (.bool false) := hg; simp [wantedR, Region.wanted, asBoolR, eg]) ?_ ?_
              · rintro ρ w' he ⟨h68, h70, -⟩
                have e68 : ρ 68 = (strV (pbytes acc)) := h68
                have e70 : ρ 70 = (strV (b)) := h70
                exact (exec_neq_str rfl e68 e70).trans (by simp [HEQ.out])
              refine tele_val rfl (.bool true) (fun _ _ _ => rfl) ?_ ?_
              · rintro ρ w' he ⟨h65, h71, -⟩
                have e65 : ρ 65 = (.bool false) := h65
                have e71 : ρ 71 = (.bool true) := h71
                simp [execOp, evR, e65, e71, go_sem]
              refine tele_nil ?_
              rintro ρ w' hext ⟨f72, f71, f70, f69, f68, f67, f66, f65, f64, f63, f62, -⟩
              replace f62 : ρ 62 = (.slice A' acc.length c') := f62
              replace f63 : ρ 63 = (.int .i64 ((0 : Nat) : Int)) := f63
              replace f64 : ρ 64 = (.bool false) := f64
              replace f65 : ρ 65 = (.bool false) := f65
              replace f66 : ρ 66 = (.slice A' acc.length c') := f66
              replace f67 : Bs w' (ρ 67) (pbytes acc) := f67
              replace f68 : ρ 68 = (strV (pbytes acc)) := f68
              replace f69 : ρ 69 = (.slice A b.length c) := f69
              replace f70 : ρ 70 = (strV (b)) := f70
              replace f71 : ρ 71 = (.bool true) := f71
              replace f72 : ρ 72 = (.bool true) := f72
              simp only [puts, Act.put, List.setIfInBounds_toArray, List.set_cons_zero, List.set_cons_succ]
              rw [f72]
              go_wp2_with fail
              go_ret2
              exact ⟨_, by rw [HR.out]; rfl, by rw [HR.out]; exact Gs.nil_ _, Ext.trans hx hext⟩
          · have HR := Lib.hid (show pdec b = ([], 11) by rw [HP.out, hrun]; unfold pdecE; dsimp only; rw [if_pos (.inr (by rw [hpe]; exact he0))])
            have he1 : ((e : Int) != 0) = true := by rw [bne_iff_ne]; omega
            clear hpe he0 hrun hL hrow hsame
            go_wp2_with fail
            refine wp_region_mono (by kernel_rfl) (by kernel_rfl) ?_
            refine tele_move rfl (.inl rfl) rfl (isV (.slice A' acc.length c')) (fun ρ w' h => h) ?_
            refine tele_call rfl rfl Try.func19 (by kernel_rfl) (isV (.int .i64 (e : Int))) (fun _ _ _ => rfl) ?_ ?_
            · rintro ρ w' he ⟨h62, -⟩
              have e62 : ρ 62 = (.slice A' acc.length c') := h62
              simp only [evR, List.map_toArray, List.map_cons, List.map_nil, e62]
              refine (HG.out _ he).mono ?_
              rintro e w'' ⟨rfl, x4⟩
              exact ⟨_, rfl, x4, rfl⟩
            refine tele_val rfl (.bool true) (fun _ _ _ => rfl) ?_ ?_
            · rintro ρ w' he ⟨h63, -⟩
              have e63 : ρ 63 = (.int .i64 (e : Int)) := h63
              simp [execOp, evR, e63, he1, go_sem]
            refine tele_move rfl (.inl rfl) rfl (isV (.bool true)) (fun ρ w' h => h) ?_
            refine tele_pass rfl (fun ρ w' hk => by obtain ⟨_, hg, -⟩ := hk; have eg : ρ 65 = (.bool true) := hg; simp [wantedR, Region.wanted, asBoolR, eg]) ?_
            refine tele_pass rfl (fun ρ w' hk => by obtain ⟨_, hg, -⟩ := hk; have eg : ρ 65 = (.bool true) := hg; simp [wantedR, Region.wanted, asBoolR, eg]) ?_
            refine tele_pass rfl (fun ρ w' hk => by obtain ⟨_, hg, -⟩ := hk; have eg : ρ 65 = (.bool true) := hg; simp [wantedR, Region.wanted, asBoolR, eg]) ?_
            refine tele_pass rfl (fun ρ w' hk => by obtain ⟨_, hg, -⟩ := hk; have eg : ρ 65 = (.bool true) := hg; simp [wantedR, Region.wanted, asBoolR, eg]) ?_
            refine tele_pass rfl (fun ρ w' hk => by obtain ⟨_, hg, -⟩ := hk; have eg : ρ 65 = (.bool true) := hg; simp [wantedR, Region.wanted, asBoolR, eg]) ?_
            refine tele_pass rfl (fun ρ w' hk => by obtain ⟨_, _, hg, -⟩ := hk; have eg : ρ 65 = (.bool true) := hg; simp [wantedR, Region.wanted, asBoolR, eg]) ?_
            refine tele_val rfl (.bool true) (fun _ _ _ => rfl) ?_ ?_
            · rintro ρ w' he ⟨h65, h71, -⟩
              have e65 : ρ 65 = (.bool true) := h65
              have e71 : ρ 71 = undef := h71
              simp [execOp, evR, e65, e71, go_sem]
            refine tele_nil ?_
            rintro ρ w' hext ⟨f72, f71, f70, f69, f68, f67, f66, f65, f64, f63, f62, -⟩
            replace f62 : ρ 62 = (.slice A' acc.length c') := f62
            replace f63 : ρ 63 = (.int .i64 (e : Int)) := f63
            replace f64 : ρ 64 = (.bool true) := f64
            replace f65 : ρ 65 = (.bool true) := f65
            replace f66 : ρ 66 = undef := f66
            replace f67 : ρ 67 = undef := f67
            replace f68 : ρ 68 = undef := f68
            replace f69 : ρ 69 = undef := f69
            replace f70 : ρ 70 = undef := f70
            replace f71 : ρ 71 = undef := f71
            replace f72 : ρ 72 = (.bool true) := f72
            simp only [puts, Act.put, List.setIfInBounds_toArray, List.set_cons_zero, List.set_cons_succ]
            rw [f72]
            go_wp2_with fail
            go_ret2
            exact ⟨_, by rw [HR.out]; rfl, by rw [HR.out]; exact Gs.nil_ _, Ext.trans hx hext⟩
  · have HR := Lib.hid (show pdec b = ([], 11) by unfold pdec; rw [hn, if_pos (.inl hf)])
    have he1 : ((f : Int) != 0) = true := by rw [bne_iff_ne]; omega
    clear hn hform hf
    go_enter Try.func23, Try.ntmps23
    go_wp2_with fail
    refine HO.out.mono ?_
    rintro e w1 ⟨rfl, rfl⟩
    go_wp2_with fail
    go_ret2
    exact ⟨_, by rw [HR.out]; rfl, by rw [HR.out]; exact Gs.nil_ _, Ext.refl _⟩
end Go.Proofs.Ytjamopclfpmgjaa
