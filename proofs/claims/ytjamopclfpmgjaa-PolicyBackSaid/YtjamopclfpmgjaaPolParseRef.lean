/-
  The walk of the document's Parse.
-/
import Derived.Test.YtjamopclfpmgjaaPolCut
namespace Go.Proofs.Ytjamopclfpmgjaa
open Go Go.RowKit Mono Num
set_option linter.unusedVariables false
set_option linter.unusedSimpArgs false

def rgrp (s : List UInt8) : Grp := ((cutB 61 (cutB 44 s).1).1, polW (cutB 61 (cutB 44 s).1).2.1)
def rtoksF : Nat → List UInt8 → List Grp
  | 0, _ => []
  | f + 1, s => rgrp s :: (if (cutB 44 s).2.2 = true then rtoksF f (cutB 44 s).2.1 else [])
def rtoks (s : List UInt8) : List Grp := rtoksF (s.length + 1) s
def rparse (s : List UInt8) : List Grp × Nat := if 100 < s.length then ([], 11) else if pgood (rtoks s) ≠ 0 ∨ ptext (rtoks s) ≠ s then ([], 11) else (rtoks s, 0)
theorem rtoksF_fuel : ∀ (f g : Nat) (s : List UInt8), s.length < f → s.length < g → rtoksF f s = rtoksF g s
  | 0, _, _, h, _ => by omega
  | _ + 1, 0, _, _, h => by omega
  | f + 1, g + 1, s, hf, hg => by
    unfold rtoksF
    congr 1
    split
    · rename_i h
      have := (cutB_len 44 s).2.2 h
      exact rtoksF_fuel f g _ (by omega) (by omega)
    · rfl
theorem rtoks_eq (s : List UInt8) : rtoks s = rgrp s :: (if (cutB 44 s).2.2 = true then rtoks (cutB 44 s).2.1 else []) := by
  unfold rtoks
  rw [rtoksF]
  congr 1
  split
  · rename_i h
    have := (cutB_len 44 s).2.2 h
    exact rtoksF_fuel _ _ _ (by omega) (by omega)
  · rfl
/-- At the head of the loop. -/
structure RLoop (w : World) (s rest : List UInt8) (more : Bool) (v : Value) (acc : List Grp) (wr : World) : Prop where
  row : wr.ownsRow w.heap.size 45 2 v acc.length (gcells acc)
  toks : rtoks s = acc ++ (if more = true then rtoks rest else [])
  len : acc.length + (if more = true then rest.length + 1 else 0) ≤ s.length + 1
  rest_le : rest.length ≤ s.length
  ok : ∀ g ∈ acc, g.1.length ≤ s.length ∧ 0 ≤ g.2 ∧ g.2 ≤ 2
  ext : Ext w wr
theorem RLoop.next {w : World} {s rest : List UInt8} {v v' : Value} {acc : List Grp} {wr w0 w1 : World} {k : Nat} {ys : List Value} {tmp : Obj} (h : RLoop w s rest true v acc wr) (hx : Ext wr w0)
    (hown : w1.ownsRow w.heap.size 45 2 v' k ys) (hk : k = acc.length + 1) (hys : ys = gcells acc ++ [strV (rgrp rest).1, .int .i64 (rgrp rest).2]) (hgr : (w0.alloc tmp).grownBy w1 v.ownBlock) :
    RLoop w s (cutB 44 rest).2.1 (cutB 44 rest).2.2 v' (acc ++ [rgrp rest]) w1 := by
  subst hk hys
  have hc := cutB_len 44 rest
  have hc2 := cutB_len 61 (cutB 44 rest).1
  have hs := h.ext.size
  have hs0 := hx.size
  have hl := h.len
  have hr := h.rest_le
  rw [if_pos rfl] at hl
  refine ⟨?_, ?_, ?_, by omega, ?_, ?_⟩
  · rw [List.length_append, gcells_snoc]
    exact hown
  · rw [h.toks, if_pos rfl, rtoks_eq]
    simp
  · rw [List.length_append, List.length_singleton]
    split
    · rename_i hm
      have := hc.2.2 hm
      omega
    · omega
  · intro x hx
    rcases List.mem_append.1 hx with hx | hx
    · exact h.ok x hx
    · rw [List.mem_singleton.1 hx]
      refine ⟨by unfold rgrp; dsimp only; omega, polW_range _⟩
  · refine Below.grown (Ext.trans (Ext.trans h.ext hx) (ext_alloc _ tmp)) hgr (by simp; omega) (fun j hj => ?_)
    exact (row_ge h.row j hj).1
theorem RLoop.gs {w : World} {s rest : List UInt8} {m : Bool} {v : Value} {acc : List Grp} {wr : World} (h : RLoop w s rest m v acc wr) (hl : s.length ≤ 100) : Gs wr v acc :=
  gs_of_row h.row fun g hg => by
    have := h.ok g hg
    exact ⟨by unfold maxLen; omega, by unfold In64; omega⟩

set_option maxHeartbeats 4000000 in
theorem refParse_any (s : List UInt8) (w : World) (hm : s.length ≤ maxLen) :
    Calls Try.prog 12 #[strV s] w fun e w' => ∃ r, e = .returned (.tuple #[r, .int .i64 ((rparse s).2 : Int)]) ∧ Gs w' r (rparse s).1 ∧ Ext w w' := by
  obtain ⟨i0, hi0, hz0, hz1, hz2⟩ := info_parts infoGrp
  unfold maxLen at hm
  have hsz := strV_size s
  by_cases h100 : 100 < s.length
  · have HP := Lib.hid (show rparse s = ([], 11) by unfold rparse; rw [if_pos h100])
    unfold strV
    go_enter Try.func12, Try.ntmps12
    go_wp2_with fail
    go_ret2
    exact ⟨_, by rw [HP.out]; rfl, by rw [HP.out]; exact Gs.nil_ _, Ext.refl _⟩
  · have hR0 : RLoop w s s true (.slice none 0 0) [] w := ⟨World.ownsRow_nil _ _ _ _, by simp, by simp, Nat.le_refl _, by simp, Ext.refl _⟩
    unfold strV
    go_enter Try.func12, Try.ntmps12
    go_wp2_with fail
    go_loopw [4, 5, 6] (fun v rest more wr => ∃ (r : List UInt8) (m : Bool) (acc : List Grp), rest = .string ⟨r.toArray⟩ ∧ more = .bool m ∧ RLoop w s r m v acc wr) (fun _ rest more _ => match rest, more with | .string x, .bool m => x.size + (if m = true then 1 else 0) | _, _ => 0)
    case atStart => exact ⟨s, true, [], rfl, rfl, hR0⟩
    case round =>
      clear hR0
      obtain ⟨r, m, acc, rfl, rfl, hL⟩ := hrel
      have hx := hL.ext
      have hrow := hL.row
      have hrl := hL.rest_le
      have hlen := hL.len
      have hrs := strV_size r
      have HL := Lib.hid hL
      cases m
      · have hgs := hL.gs (by omega)
        have htk := hL.toks
        rw [if_neg (by simp), List.append_nil] at htk
        obtain ⟨A', c', rfl, _, _, _, _⟩ := hgs.at_
        obtain ⟨e, hpe⟩ : ∃ e, pgood acc = e := ⟨_, rfl⟩
        have HG := Lib.hid (refGood_any _ acc wr hgs)
        rw [hpe] at HG
        by_cases he0 : e = 0
        · subst he0
          have HT := Lib.hid (fun w2 hw => refText_any (.slice A' acc.length c') acc w2 hw hpe)
          by_cases hts : ptext acc = s
          · have HR := Lib.hid (show rparse s = (acc, 0) by unfold rparse; rw [if_neg h100, htk, if_neg (by simp [hpe, hts])])
            rw [hts] at HT
            unfold strV at HT
            clear hpe hts htk hL hrow hlen
            go_wp2_with fail
            refine HG.out.mono ?_
            rintro e w2 ⟨rfl, x2⟩
            go_wp2_with fail
            refine (HT.out _ (hgs.ext x2)).mono ?_
            rintro e w3 ⟨rfl, x3⟩
            go_wp2_with fail
            go_ret2
            exact ⟨_, by rw [HR.out]; rfl, by rw [HR.out]; exact hgs.ext (Ext.trans x2 x3), Ext.trans hx (Ext.trans x2 x3)⟩
          · have HR := Lib.hid (show rparse s = ([], 11) by unfold rparse; rw [if_neg h100, htk, if_pos (.inr hts)])
            have hb : (ptext acc == s) = false := by simpa using hts
            generalize ptext acc = x at *
            unfold strV at HT
            clear hpe hts htk hL hrow hlen
            go_wp2_with fail
            refine HG.out.mono ?_
            rintro e w2 ⟨rfl, x2⟩
            go_wp2_with fail
            refine (HT.out _ (hgs.ext x2)).mono ?_
            rintro e w3 ⟨rfl, x3⟩
            go_wp2_with fail
            go_ret2
            exact ⟨_, by rw [HR.out]; rfl, by rw [HR.out]; exact Gs.nil_ _, Ext.trans hx (Ext.trans x2 x3)⟩
        · have HR := Lib.hid (show rparse s = ([], 11) by unfold rparse; rw [if_neg h100, htk, if_pos (.inl (by rw [hpe]; exact he0))])
          have he1 : ((e : Int) != 0) = true := by rw [bne_iff_ne]; omega
          clear hpe he0 htk hL hrow hlen
          go_wp2_with fail
          refine HG.out.mono ?_
          rintro e w2 ⟨rfl, x2⟩
          go_wp2_with fail
          go_ret2
          exact ⟨_, by rw [HR.out]; rfl, by rw [HR.out]; exact Gs.nil_ _, Ext.trans hx x2⟩
      · rw [if_pos rfl] at hlen
        have hc1 := cutB_len 44 r
        have hc2 := cutB_len 61 (cutB 44 r).1
        have HC1 := Lib.hid (fun w => cut_any r 44 w (by omega))
        have HC2 := Lib.hid (fun w => cut_any (cutB 44 r).1 61 w (by omega))
        have HN := Lib.hid (fun (w0 w1 : World) (v' : Value) (k : Nat) (ys : List Value) (tmp : Obj) => HL.out.next (w0 := w0) (w1 := w1) (v' := v') (k := k) (ys := ys) (tmp := tmp))
        have hg : rgrp r = ((cutB 61 (cutB 44 r).1).1, polW (cutB 61 (cutB 44 r).1).2.1) := rfl
        rw [hg] at HN
        clear hg
        generalize cutB 61 (cutB 44 r).1 = u at *
        generalize cutB 44 r = t at *
        obtain ⟨t1, t2, t3⟩ := t
        obtain ⟨u1, u2, u3⟩ := u
        dsimp only at *
        unfold strV at HC1 HC2
        go_wp2_with fail
        refine (HC1.out _).mono ?_
        rintro e w1 ⟨rfl, x1⟩
        go_wp2_with fail
        refine (HC2.out _).mono ?_
        rintro e w2 ⟨rfl, x2⟩
        have x12 := Ext.trans x1 x2
        have hrow2 : w2.ownsRow w.heap.size 45 2 _ acc.length (gcells acc) := hrow.kept (row := none) ⟨x12.os, x12.tape, x12.output, x12.size, fun k hk _ => x12.block k hk⟩ (by cases Value.ownBlock _ <;> simp)
        have hs2 := (Ext.trans hx x12).size
        have HM := Lib.hid hc1
        clear hc1 hc2
        by_cases hq1 : u2 = lastW
        · subst hq1
          have HP := Lib.hid (show polW lastW = 1 by unfold polW; rw [if_pos rfl])
          unfold lastW
          go_wp2_with (at_builtin; refine wpList_append_own_at _ rfl (.tmp 35) (.tmp 39) 22 rfl w.heap.size 45 i0 (.agg #[.string ⟨#[]⟩, .int .i64 0]) 2 24 Try.underlying22 hi0 hz0 hz1 hz2 rfl (by decide) _ _ _ rfl (hrow2.alloc _) ⟨w2.heap.size, 0, none⟩ 1 1 [strV u1, .int .i64 1] rfl rfl (two_new _ _ _ _) (by simp [Value.oneCell', strV]) (by unfold maxLen; omega) (by omega) (by simp; omega) ?_; intro v' w4 hown' hgrow _ _)
          have HE := HN.out w2 w4 v' _ _ _ x12 hown' rfl (by rw [HP.out]) hgrow
          clear hown' hgrow hrow2 hrow
          go_roundw
          case rel => exact ⟨t2, t3, _, rfl, rfl, HE⟩
          case measure =>
            have hq := HM.out
            show (⟨t2.toArray⟩ : ByteArray).size + (if t3 = true then 1 else 0) < (⟨r.toArray⟩ : ByteArray).size + (if true = true then 1 else 0)
            rw [strV_size, strV_size]
            cases t3
            · simp
              omega
            · have := hq.2.2 rfl
              simp
              omega
        · by_cases hq2 : u2 = delW
          · have HP := Lib.hid (show polW u2 = 2 by unfold polW; rw [if_neg hq1, if_pos hq2])
            subst hq2
            clear hq1
            unfold delW
            go_wp2_with (at_builtin; refine wpList_append_own_at _ rfl (.tmp 35) (.tmp 39) 22 rfl w.heap.size 45 i0 (.agg #[.string ⟨#[]⟩, .int .i64 0]) 2 24 Try.underlying22 hi0 hz0 hz1 hz2 rfl (by decide) _ _ _ rfl (hrow2.alloc _) ⟨w2.heap.size, 0, none⟩ 1 1 [strV u1, .int .i64 2] rfl rfl (two_new _ _ _ _) (by simp [Value.oneCell', strV]) (by unfold maxLen; omega) (by omega) (by simp; omega) ?_; intro v' w4 hown' hgrow _ _)
            have HE := HN.out w2 w4 v' _ _ _ x12 hown' rfl (by rw [HP.out]) hgrow
            clear hown' hgrow hrow2 hrow
            go_roundw
            case rel => exact ⟨t2, t3, _, rfl, rfl, HE⟩
            case measure =>
              have hq := HM.out
              show (⟨t2.toArray⟩ : ByteArray).size + (if t3 = true then 1 else 0) < (⟨r.toArray⟩ : ByteArray).size + (if true = true then 1 else 0)
              rw [strV_size, strV_size]
              cases t3
              · simp
                omega
              · have := hq.2.2 rfl
                simp
                omega
          · have HP := Lib.hid (show polW u2 = 0 by unfold polW; rw [if_neg hq1, if_neg hq2])
            have b1 : (u2 == [108, 97, 115, 116]) = false := by simpa [lastW] using hq1
            have b2 : (u2 == [100, 101, 108, 101, 116, 101]) = false := by simpa [delW] using hq2
            clear hq1 hq2
            go_wp2_with (at_builtin; refine wpList_append_own_at _ rfl (.tmp 35) (.tmp 39) 22 rfl w.heap.size 45 i0 (.agg #[.string ⟨#[]⟩, .int .i64 0]) 2 24 Try.underlying22 hi0 hz0 hz1 hz2 rfl (by decide) _ _ _ rfl (hrow2.alloc _) ⟨w2.heap.size, 0, none⟩ 1 1 [strV u1, .int .i64 0] rfl rfl (two_new _ _ _ _) (by simp [Value.oneCell', strV]) (by unfold maxLen; omega) (by omega) (by simp; omega) ?_; intro v' w4 hown' hgrow _ _)
            have HE := HN.out w2 w4 v' _ _ _ x12 hown' rfl (by rw [HP.out]) hgrow
            clear hown' hgrow hrow2 hrow
            go_roundw
            case rel => exact ⟨t2, t3, _, rfl, rfl, HE⟩
            case measure =>
              have hq := HM.out
              show (⟨t2.toArray⟩ : ByteArray).size + (if t3 = true then 1 else 0) < (⟨r.toArray⟩ : ByteArray).size + (if true = true then 1 else 0)
              rw [strV_size, strV_size]
              cases t3
              · simp
                omega
              · have := hq.2.2 rfl
                simp
                omega
end Go.Proofs.Ytjamopclfpmgjaa
