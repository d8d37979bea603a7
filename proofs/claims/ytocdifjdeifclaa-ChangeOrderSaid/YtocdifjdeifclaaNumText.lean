/-
  The walks of num's texts and the document's own.
-/
import Derived.Test.YtocdifjdeifclaaNumWalks
import Derived.Test.YtocdifjdeifclaaNumBack
import Derived.Test.YtocdifjdeifclaaText
namespace Go.Proofs.Ytocdifjdeifclaa
open Go.RowKit Mono Num
set_option linter.unusedVariables false
set_option linter.unusedSimpArgs false
set_option maxRecDepth 10000
namespace Num
/-- The text with which bytes begin. -/
def ntext (l : List UInt8) (most : Int) : List UInt8 × Nat × Nat :=
  if (nget l).2.2 = 0 then (if most < ((nget l).1 : Int) then ([], 0, 3) else if l.length - (nget l).2.1 < (nget l).1 then ([], 0, 10) else ((l.drop (nget l).2.1).take (nget l).1, (nget l).2.1 + (nget l).1, 0))
  else ([], 0, (nget l).2.2)
def nputText (s : List UInt8) : List UInt8 := nput (s.length : Int) ++ s
end Num

theorem nget_room' (l : List UInt8) (h : (nget l).2.2 = 0) : 0 < (nget l).2.1 ∧ (nget l).2.1 ≤ l.length ∧ (nget l).1 ≤ 4611686018427387903 := by
  have := nget_form_back l (nget l).1 (nget l).2.1 (by rw [← h])
  exact ⟨this.1, this.2.1, this.2.2.1⟩

set_option maxHeartbeats 400000 in
theorem numPutText_any (v : Value) (l s : List UInt8) (w : World) (hv : Bs w v l) (hl : l.length + s.length ≤ 140737488355000) :
    Calls Try.prog 57 #[v, strV s] w fun e w' => ∃ r, e = .returned r ∧ OwB w' w.heap.size r (l ++ nputText s) ∧ Ext w w' := by
  have hsz := strV_size s
  go_enter Try.func57, Try.ntmps57
  unfold strV
  go_wp2_with fail
  refine (numPut_any v l s.length w hv (by omega) (by omega)).mono ?_
  rintro e w1 ⟨r, rfl, ho, hb1⟩
  have hz1 := hb1.size
  have hnl : (l ++ nput (s.length : Int)).length ≤ l.length + 8 := by
    rw [List.length_append, nput_length]; have := nsize_le (s.length : Int); omega
  go_wp2_with (at_builtin; refine wpList_append_str _ rfl (.tmp 8) (.tmp 9) rfl ho (show Value.string ⟨s.toArray⟩ = strV s from rfl) rfl rfl (by omega) hz1 ?_; intro v2 w2 hown2 hg2; have hb2 : Below w.heap.size w w2 := Below.growB hb1 ho hg2 (Nat.le_refl _) hz1)
  go_ret
  exact ⟨_, rfl, by unfold nputText; rw [← List.append_assoc]; exact hown2, hb2⟩

set_option maxHeartbeats 1000000 in
theorem numGetText_any (v : Value) (l : List UInt8) (most : Int) (w : World) (hv : Bs w v l) (hm : -9223372036854775808 ≤ most ∧ most ≤ 9223372036854775807) :
    Calls Try.prog 88 #[v, .int .i64 most] w fun e w' => e = .returned (.tuple #[strV (ntext l most).1, .int .i64 (((ntext l most).2.1 : Nat) : Int), .int .i64 (((ntext l most).2.2 : Nat) : Int)]) ∧ Ext w w' := by
  obtain ⟨A, c, rfl, h1, h2, _, _⟩ := hv.open_
  unfold maxLen at h2
  obtain ⟨hm1, hm2⟩ := hm
  have hG := numGet_any _ l w hv
  by_cases he : (nget l).2.2 = 0
  · obtain ⟨hk1, hk2, hk3⟩ := nget_room' l he
    have hfrom := hv.from_ hk2
    by_cases hmost : most < ((nget l).1 : Int)
    · have hT : ntext l most = ([], 0, 3) := by unfold ntext; rw [if_pos he, if_pos hmost]
      have HT := Lib.hid hT
      rw [he] at hG
      clear hT he hfrom
      generalize (nget l).1 = n at *
      generalize (nget l).2.1 = k at *
      go_enter Try.func88, Try.ntmps88
      go_wp2_with fail
      refine hG.mono ?_
      rintro e w' ⟨rfl, rfl⟩
      go_wp2_with fail
      go_ret3
      exact ⟨by rw [HT.out]; rfl, Ext.refl _⟩
    by_cases hcut : l.length - (nget l).2.1 < (nget l).1
    · have hT : ntext l most = ([], 0, 10) := by unfold ntext; rw [if_pos he, if_neg hmost, if_pos hcut]
      have HT := Lib.hid hT
      rw [he] at hG
      clear hT he hfrom
      have hcut' : (l.length : Int) - ((nget l).2.1 : Int) < ((nget l).1 : Int) := by omega
      generalize (nget l).1 = n at *
      generalize (nget l).2.1 = k at *
      go_enter Try.func88, Try.ntmps88
      go_wp2_with fail
      refine hG.mono ?_
      rintro e w' ⟨rfl, rfl⟩
      go_wp2_with fail
      go_ret3
      exact ⟨by rw [HT.out]; rfl, Ext.refl _⟩
    · have hT : ntext l most = ((l.drop (nget l).2.1).take (nget l).1, (nget l).2.1 + (nget l).1, 0) := by unfold ntext; rw [if_pos he, if_neg hmost, if_neg hcut]
      have HT := Lib.hid hT
      rw [he] at hG
      have hup := hfrom.upto (k := (nget l).1) (by omega)
      clear hT he hfrom
      have hstr := fun (x : Value) (hx : Bs w x ((l.drop (nget l).2.1).take (nget l).1)) => hx.str (P := Try.prog) 56 9 5 Try.underlying56 Try.underlying5 Try.underlying9
      have hcut' : ¬ (l.length : Int) - ((nget l).2.1 : Int) < ((nget l).1 : Int) := by omega
      generalize (nget l).1 = n at *
      generalize (nget l).2.1 = k at *
      go_enter Try.func88, Try.ntmps88
      go_wp2_with fail
      refine hG.mono ?_
      rintro e w' ⟨rfl, rfl⟩
      by_cases hck : c = k
      · rw [if_pos hck, show c - k = 0 by omega] at hup
        have hs2 := hstr _ hup
        clear hstr
        subst hck
        go_wp2_with fail
        go_ret3
        exact ⟨by rw [HT.out]; rfl, Ext.refl _⟩
      · rw [if_neg hck] at hup
        have hs2 := hstr _ hup
        clear hstr
        go_wp2_with fail
        go_ret3
        exact ⟨by rw [HT.out]; simp [strV], Ext.refl _⟩
  · have hT : ntext l most = ([], 0, (nget l).2.2) := by unfold ntext; rw [if_neg he]
    have HT := Lib.hid hT
    have he' : ((((nget l).2.2 : Nat) : Int) != 0) = true := by rw [bne_iff_ne]; omega
    clear hT he
    generalize (nget l).2.2 = f at *
    go_enter Try.func88, Try.ntmps88
    go_wp2_with fail
    refine hG.mono ?_
    rintro e w' ⟨rfl, rfl⟩
    go_wp2_with fail
    go_ret3
    exact ⟨by rw [HT.out]; rfl, Ext.refl _⟩

set_option maxHeartbeats 400000 in
theorem refPutText_any (v : Value) (l s : List UInt8) (w : World) (hv : Bs w v l) (hl : l.length + s.length ≤ 140737488355000) :
    Calls Try.prog 61 #[v, strV s] w fun e w' => ∃ r, e = .returned r ∧ OwB w' w.heap.size r (l ++ nputText s) ∧ Ext w w' := by
  have hsz := strV_size s
  go_enter Try.func61, Try.ntmps61
  unfold strV
  go_wp2_with fail
  refine (refPut_any v l s.length w hv (by omega) (by omega)).mono ?_
  rintro e w1 ⟨r, rfl, ho, hb1⟩
  have hz1 := hb1.size
  have hnl : (l ++ nput (s.length : Int)).length ≤ l.length + 8 := by
    rw [List.length_append, nput_length]; have := nsize_le (s.length : Int); omega
  go_wp2_with (at_builtin; refine wpList_append_str _ rfl (.tmp 8) (.tmp 9) rfl ho (show Value.string ⟨s.toArray⟩ = strV s from rfl) rfl rfl (by omega) hz1 ?_; intro v2 w2 hown2 hg2; have hb2 : Below w.heap.size w w2 := Below.growB hb1 ho hg2 (Nat.le_refl _) hz1)
  go_ret
  exact ⟨_, rfl, by unfold nputText; rw [← List.append_assoc]; exact hown2, hb2⟩

set_option maxHeartbeats 1000000 in
theorem refGetText_any (v : Value) (l : List UInt8) (most : Int) (w : World) (hv : Bs w v l) (hm : -9223372036854775808 ≤ most ∧ most ≤ 9223372036854775807) :
    Calls Try.prog 89 #[v, .int .i64 most] w fun e w' => e = .returned (.tuple #[strV (ntext l most).1, .int .i64 (((ntext l most).2.1 : Nat) : Int), .int .i64 (((ntext l most).2.2 : Nat) : Int)]) ∧ Ext w w' := by
  obtain ⟨A, c, rfl, h1, h2, _, _⟩ := hv.open_
  unfold maxLen at h2
  obtain ⟨hm1, hm2⟩ := hm
  have hG := refGet_any _ l w hv
  by_cases he : (nget l).2.2 = 0
  · obtain ⟨hk1, hk2, hk3⟩ := nget_room' l he
    have hfrom := hv.from_ hk2
    by_cases hmost : most < ((nget l).1 : Int)
    · have hT : ntext l most = ([], 0, 3) := by unfold ntext; rw [if_pos he, if_pos hmost]
      have HT := Lib.hid hT
      rw [he] at hG
      clear hT he hfrom
      generalize (nget l).1 = n at *
      generalize (nget l).2.1 = k at *
      go_enter Try.func89, Try.ntmps89
      go_wp2_with fail
      refine hG.mono ?_
      rintro e w' ⟨rfl, rfl⟩
      go_wp2_with fail
      go_ret3
      exact ⟨by rw [HT.out]; rfl, Ext.refl _⟩
    by_cases hcut : l.length - (nget l).2.1 < (nget l).1
    · have hT : ntext l most = ([], 0, 10) := by unfold ntext; rw [if_pos he, if_neg hmost, if_pos hcut]
      have HT := Lib.hid hT
      rw [he] at hG
      clear hT he hfrom
      have hcut' : (l.length : Int) - ((nget l).2.1 : Int) < ((nget l).1 : Int) := by omega
      generalize (nget l).1 = n at *
      generalize (nget l).2.1 = k at *
      go_enter Try.func89, Try.ntmps89
      go_wp2_with fail
      refine hG.mono ?_
      rintro e w' ⟨rfl, rfl⟩
      go_wp2_with fail
      go_ret3
      exact ⟨by rw [HT.out]; rfl, Ext.refl _⟩
    · have hT : ntext l most = ((l.drop (nget l).2.1).take (nget l).1, (nget l).2.1 + (nget l).1, 0) := by unfold ntext; rw [if_pos he, if_neg hmost, if_neg hcut]
      have HT := Lib.hid hT
      rw [he] at hG
      have hup := hfrom.upto (k := (nget l).1) (by omega)
      clear hT he hfrom
      have hstr := fun (x : Value) (hx : Bs w x ((l.drop (nget l).2.1).take (nget l).1)) => hx.str (P := Try.prog) 56 9 5 Try.underlying56 Try.underlying5 Try.underlying9
      have hcut' : ¬ (l.length : Int) - ((nget l).2.1 : Int) < ((nget l).1 : Int) := by omega
      generalize (nget l).1 = n at *
      generalize (nget l).2.1 = k at *
      go_enter Try.func89, Try.ntmps89
      go_wp2_with fail
      refine hG.mono ?_
      rintro e w' ⟨rfl, rfl⟩
      by_cases hck : c = k
      · rw [if_pos hck, show c - k = 0 by omega] at hup
        have hs2 := hstr _ hup
        clear hstr
        subst hck
        go_wp2_with fail
        go_ret3
        exact ⟨by rw [HT.out]; rfl, Ext.refl _⟩
      · rw [if_neg hck] at hup
        have hs2 := hstr _ hup
        clear hstr
        go_wp2_with fail
        go_ret3
        exact ⟨by rw [HT.out]; simp [strV], Ext.refl _⟩
  · have hT : ntext l most = ([], 0, (nget l).2.2) := by unfold ntext; rw [if_neg he]
    have HT := Lib.hid hT
    have he' : ((((nget l).2.2 : Nat) : Int) != 0) = true := by rw [bne_iff_ne]; omega
    clear hT he
    generalize (nget l).2.2 = f at *
    go_enter Try.func89, Try.ntmps89
    go_wp2_with fail
    refine hG.mono ?_
    rintro e w' ⟨rfl, rfl⟩
    go_wp2_with fail
    go_ret3
    exact ⟨by rw [HT.out]; rfl, Ext.refl _⟩
end Go.Proofs.Ytocdifjdeifclaa
