/-
  The document's Get of changes.
-/
import Derived.Test.YtocdifjdeifclaaChRefRead
namespace Go.Proofs.Ytocdifjdeifclaa
open Go Go.RowKit Mono Num
set_option linter.unusedVariables false
set_option linter.unusedSimpArgs false
set_option maxRecDepth 10000
theorem Ws.set7 {w : World} {v : Value} {l : List Wr} {B : World} (h : Ws w v l) (he : Ext B w) (h0 : Ws w v l) : True := trivial
theorem ws_gb {w w' : World} {v : Value} {l : List Wr} {r : Nat} (h : Ws w v l) (hg : w.grownBy w' (some r)) (hn : ∀ A n c, v = .slice (some A) n c → 0 < l.length → A.block ≠ r) : Ws w' v l := by
  obtain ⟨⟨A, c, hv, h1, h2, h3, h4⟩, hin⟩ := h
  refine ⟨⟨A, c, hv, h1, h2, h3, fun h0 => ?_⟩, hin⟩
  obtain ⟨b, off, hA, hb, hc⟩ := h4 h0
  subst hA
  have hne := hn _ _ _ hv h0
  have hcell : ∀ o, w'.cell? ⟨b, o, none⟩ = w.cell? ⟨b, o, none⟩ := fun o => by
    have := hg.block b hb (fun e => hne (Option.some.inj e))
    simp [World.cell?, this]
  exact ⟨b, off, rfl, Nat.lt_of_lt_of_le hb hg.size, fun i x hx => by rw [hcell, hcell, hcell, hcell]; exact hc i x hx⟩
theorem ws_ne {w w' : World} {v : Value} {l : List Wr} {r : Nat} {L : List Value} (h : Ws w v l) (hb : Blk w r L) (hcell : ∀ x, L[0]? ≠ some (strV x)) (hw : ∀ o x, w.cell? ⟨r, o, none⟩ = some (strV x) → False) : ∀ A n c, v = .slice (some A) n c → 0 < l.length → A.block ≠ r := by
  obtain ⟨⟨A, c, hv, h1, h2, h3, h4⟩, hin⟩ := h
  intro A' n' c' hv' h0 he
  obtain ⟨b, off, hA, hb', hc⟩ := h4 h0
  rw [hv] at hv'
  injection hv' with e1 _ _
  rw [hA] at e1
  injection e1 with e1
  subst e1
  have := (hc 0 l[0] (List.getElem?_eq_getElem h0)).1
  dsimp only at he
  subst he
  exact hw _ _ this
/-- A block without texts holds no writes. -/
theorem ws_apart {w : World} {v : Value} {l : List Wr} {r : Nat} (h : Ws w v l) (hb : Blk w r [.int .i64 0, .int .i64 0, .int .i64 0, .int .i64 0, .int .i64 0, .int .i64 0, .slice none 0 0]) : ∀ A n c, v = .slice (some A) n c → 0 < l.length → A.block ≠ r := by
  refine ws_ne (w' := w) h hb (fun x hx => by simp [strV] at hx) fun o x hx => ?_
  obtain ⟨T, hT⟩ := hb
  simp only [World.cell?, hT] at hx
  match o, hx with
  | 0, hx => simp [strV] at hx
  | 1, hx => simp [strV] at hx
  | 2, hx => simp [strV] at hx
  | 3, hx => simp [strV] at hx
  | 4, hx => simp [strV] at hx
  | 5, hx => simp [strV] at hx
  | 6, hx => simp [strV] at hx
  | k + 7, hx => simp at hx

set_option maxHeartbeats 8000000 in
theorem refChGet_any (A : Option Addr) (c : Nat) (b : List UInt8) (vl : Value) (gs : List Grp) (w : World) (hb : Bs w (.slice A b.length c) b) (hbl : b.length ≤ 10000) (hl : Gs w vl gs) :
    Calls Try.prog 20 #[.slice A b.length c, vl] w fun en w' => ∃ vw, en = .returned (.tuple #[chV (cgetP gs b).1 vw, .int .i64 ((cgetP gs b).2.1 : Int), .int .i64 ((cgetP gs b).2.2 : Int)]) ∧ Ws w' vw (cgetP gs b).1.writes ∧ Ext w w' := by
  have HB := Lib.hid hb
  have HLG := Lib.hid hl
  clear hb hl
  go_enter Try.func20, Try.ntmps20
  go_wp2_with fail
  have bn := Blk.new w #[.int .i64 0, .int .i64 0, .int .i64 0, .int .i64 0, .int .i64 0, .int .i64 0, .slice none 0 0] 29
  have hx := ext_alloc w (.cells #[.int .i64 0, .int .i64 0, .int .i64 0, .int .i64 0, .int .i64 0, .int .i64 0, .slice none 0 0] 29)
  obtain ⟨nb, hnb⟩ : ∃ n, n = w.heap.size := ⟨_, rfl⟩
  rw [← hnb] at bn ⊢
  have HNW := Lib.hid (show w.heap.size ≤ nb by omega)
  clear hnb
  generalize w.alloc (.cells #[.int .i64 0, .int .i64 0, .int .i64 0, .int .i64 0, .int .i64 0, .int .i64 0, .slice none 0 0] 29) = W at *
  refine (refGood_any vl gs W (HLG.out.ext hx)).mono ?_
  rintro e w1 ⟨rfl, x1⟩
  replace hx := Ext.trans hx x1
  replace bn := bn.ext x1
  clear x1
  by_cases hp : pgood gs = 0
  rotate_left
  · have HR := Lib.hid (show cgetP gs b = (Ch.nought, 0, pgood gs) by unfold cgetP; rw [if_pos hp])
    have hp0 : (((pgood gs : Nat) : Int) != 0) = true := by rw [bne_iff_ne]; omega
    clear hp
    have f0 := bn.cell (i := 0) rfl
    have fz0 := bn.thaw 0
    have f1 := bn.cell (i := 1) rfl
    have fz1 := bn.thaw 1
    have f2 := bn.cell (i := 2) rfl
    have fz2 := bn.thaw 2
    have f3 := bn.cell (i := 3) rfl
    have fz3 := bn.thaw 3
    have f4 := bn.cell (i := 4) rfl
    have fz4 := bn.thaw 4
    have f5 := bn.cell (i := 5) rfl
    have fz5 := bn.thaw 5
    have f6 := bn.cell (i := 6) rfl
    have fz6 := bn.thaw 6
    go_wp2_with fail
    have bf := set7_blk bn (.int .i64 0) (.int .i64 0) (.int .i64 0) (.int .i64 0) (.int .i64 0) (.int .i64 0) (.slice none 0 0)
    have d0 := bf.cell (i := 0) rfl
    have d1 := bf.cell (i := 1) rfl
    have d2 := bf.cell (i := 2) rfl
    have d3 := bf.cell (i := 3) rfl
    have d4 := bf.cell (i := 4) rfl
    have d5 := bf.cell (i := 5) rfl
    have d6 := bf.cell (i := 6) rfl
    have xf := set7_ext hx HNW.out (.int .i64 0) (.int .i64 0) (.int .i64 0) (.int .i64 0) (.int .i64 0) (.int .i64 0) (.slice none 0 0)
    unfold set7 at d0 d1 d2 d3 d4 d5 d6 xf
    exact bodyPost_ret (v := .tuple #[.agg #[.int .i64 0, .int .i64 0, .int .i64 0, .int .i64 0, .int .i64 0, .int .i64 0, .slice none 0 0], .int .i64 0, .int .i64 ((pgood gs : Nat) : Int)]) (by simp [results, Try.results20, d0, d1, d2, d3, d4, d5, d6, go_sem]) rfl ⟨.slice none 0 0, by rw [HR.out]; rfl, by rw [HR.out]; exact Ws.nil_ _, xf⟩
  rw [hp]
  have HP := Lib.hid hp
  clear hp
  go_wp2_with fail
  refine (rread_any A c b _ (HB.out.ext hx) hbl).mono ?_
  rintro en w2 ⟨⟨s1, s2, s3, s4, s5, s6, wd⟩, vw, n, ok, rfl, hwd, hgot, x2⟩
  obtain ⟨A2, c2, rfl, _⟩ := hwd.at_
  have HGT := Lib.hid (hgot.get gs (by omega) HP.out)
  clear hgot
  unfold chV
  dsimp only
  have x3 := ext_alloc w2 (.cells #[.int .i64 s1, .int .i64 s2, .int .i64 s3, .int .i64 s4, .int .i64 s5, .int .i64 s6, .slice A2 wd.length c2] 29)
  have bd := Blk.new w2 #[.int .i64 s1, .int .i64 s2, .int .i64 s3, .int .i64 s4, .int .i64 s5, .int .i64 s6, .slice A2 wd.length c2] 29
  have HND := Lib.hid (Nat.ne_of_lt (bn.ext x2).lt)
  replace hx := Ext.trans (Ext.trans hx x2) x3
  replace bn := (bn.ext x2).ext x3
  have HWD := Lib.hid (hwd.ext x3)
  clear x2 x3 hwd
  cases ok
  · have HR := Lib.hid (HGT.out.2 rfl)
    have f0 := bn.cell (i := 0) rfl
    have fz0 := bn.thaw 0
    have f1 := bn.cell (i := 1) rfl
    have fz1 := bn.thaw 1
    have f2 := bn.cell (i := 2) rfl
    have fz2 := bn.thaw 2
    have f3 := bn.cell (i := 3) rfl
    have fz3 := bn.thaw 3
    have f4 := bn.cell (i := 4) rfl
    have fz4 := bn.thaw 4
    have f5 := bn.cell (i := 5) rfl
    have fz5 := bn.thaw 5
    have f6 := bn.cell (i := 6) rfl
    have fz6 := bn.thaw 6
    go_wp2_with fail
    have bf := set7_blk bn (.int .i64 0) (.int .i64 0) (.int .i64 0) (.int .i64 0) (.int .i64 0) (.int .i64 0) (.slice none 0 0)
    have d0 := bf.cell (i := 0) rfl
    have d1 := bf.cell (i := 1) rfl
    have d2 := bf.cell (i := 2) rfl
    have d3 := bf.cell (i := 3) rfl
    have d4 := bf.cell (i := 4) rfl
    have d5 := bf.cell (i := 5) rfl
    have d6 := bf.cell (i := 6) rfl
    have xf := set7_ext hx HNW.out (.int .i64 0) (.int .i64 0) (.int .i64 0) (.int .i64 0) (.int .i64 0) (.int .i64 0) (.slice none 0 0)
    unfold set7 at d0 d1 d2 d3 d4 d5 d6 xf
    exact bodyPost_ret (v := .tuple #[.agg #[.int .i64 0, .int .i64 0, .int .i64 0, .int .i64 0, .int .i64 0, .int .i64 0, .slice none 0 0], .int .i64 0, .int .i64 120]) (by simp [results, Try.results20, d0, d1, d2, d3, d4, d5, d6, go_sem]) rfl ⟨.slice none 0 0, by rw [HR.out]; rfl, by rw [HR.out]; exact Ws.nil_ _, xf⟩
  · have hge := HGT.out.1 rfl
    have HGE := Lib.hid hge
    clear hge
    have g0 := bd.cell (i := 0) rfl
    have g1 := bd.cell (i := 1) rfl
    have g2 := bd.cell (i := 2) rfl
    have g3 := bd.cell (i := 3) rfl
    have g4 := bd.cell (i := 4) rfl
    have g5 := bd.cell (i := 5) rfl
    have g6 := bd.cell (i := 6) rfl
    go_wp2_with fail
    have hch := refChGood_any vl gs s1 s2 s3 s4 s5 s6 (.slice A2 wd.length c2) wd _ (HLG.out.ext hx) HWD.out
    unfold chV at hch
    dsimp only at hch
    refine hch.mono ?_
    rintro en w3 ⟨rfl, x4⟩
    clear hch g0 g1 g2 g3 g4 g5 g6
    replace hx := Ext.trans hx x4
    replace bn := bn.ext x4
    replace bd := bd.ext x4
    have HWE := Lib.hid (HWD.out.ext x4)
    clear x4
    by_cases hcg : cgood gs ⟨s1, s2, s3, s4, s5, s6, wd⟩ = 0
    · have HR := Lib.hid (show cgetP gs b = (⟨s1, s2, s3, s4, s5, s6, wd⟩, n, 0) by rw [HGE.out, if_pos hcg])
      rw [hcg]
      clear hcg
      have hne := HND.out
      have g0 := bd.cell (i := 0) rfl
      have g1 := bd.cell (i := 1) rfl
      have g2 := bd.cell (i := 2) rfl
      have g3 := bd.cell (i := 3) rfl
      have g4 := bd.cell (i := 4) rfl
      have g5 := bd.cell (i := 5) rfl
      have g6 := bd.cell (i := 6) rfl
      have f0 := bn.cell (i := 0) rfl
      have fz0 := bn.thaw 0
      have f1 := bn.cell (i := 1) rfl
      have fz1 := bn.thaw 1
      have f2 := bn.cell (i := 2) rfl
      have fz2 := bn.thaw 2
      have f3 := bn.cell (i := 3) rfl
      have fz3 := bn.thaw 3
      have f4 := bn.cell (i := 4) rfl
      have fz4 := bn.thaw 4
      have f5 := bn.cell (i := 5) rfl
      have fz5 := bn.thaw 5
      have f6 := bn.cell (i := 6) rfl
      have fz6 := bn.thaw 6
      go_wp2_with fail
      have bf := set7_blk bn (.int .i64 s1) (.int .i64 s2) (.int .i64 s3) (.int .i64 s4) (.int .i64 s5) (.int .i64 s6) (.slice A2 wd.length c2)
      have d0 := bf.cell (i := 0) rfl
      have d1 := bf.cell (i := 1) rfl
      have d2 := bf.cell (i := 2) rfl
      have d3 := bf.cell (i := 3) rfl
      have d4 := bf.cell (i := 4) rfl
      have d5 := bf.cell (i := 5) rfl
      have d6 := bf.cell (i := 6) rfl
      have xf := set7_ext hx HNW.out (.int .i64 s1) (.int .i64 s2) (.int .i64 s3) (.int .i64 s4) (.int .i64 s5) (.int .i64 s6) (.slice A2 wd.length c2)
      have wf := ws_gb HWE.out (set7_gb w3 nb (.int .i64 s1) (.int .i64 s2) (.int .i64 s3) (.int .i64 s4) (.int .i64 s5) (.int .i64 s6) (.slice A2 wd.length c2)) (ws_apart HWE.out bn)
      unfold set7 at d0 d1 d2 d3 d4 d5 d6 xf wf
      exact bodyPost_ret (v := .tuple #[.agg #[.int .i64 s1, .int .i64 s2, .int .i64 s3, .int .i64 s4, .int .i64 s5, .int .i64 s6, .slice A2 wd.length c2], .int .i64 (n : Int), .int .i64 0]) (by simp [results, Try.results20, d0, d1, d2, d3, d4, d5, d6, go_sem]) rfl ⟨.slice A2 wd.length c2, by rw [HR.out]; rfl, by rw [HR.out]; exact wf, xf⟩
    · have HR := Lib.hid (show cgetP gs b = (Ch.nought, 0, 120) by rw [HGE.out, if_neg hcg])
      have hb0 : (((cgood gs ⟨s1, s2, s3, s4, s5, s6, wd⟩ : Nat) : Int) != 0) = true := by rw [bne_iff_ne]; omega
      clear hcg
      have f0 := bn.cell (i := 0) rfl
      have fz0 := bn.thaw 0
      have f1 := bn.cell (i := 1) rfl
      have fz1 := bn.thaw 1
      have f2 := bn.cell (i := 2) rfl
      have fz2 := bn.thaw 2
      have f3 := bn.cell (i := 3) rfl
      have fz3 := bn.thaw 3
      have f4 := bn.cell (i := 4) rfl
      have fz4 := bn.thaw 4
      have f5 := bn.cell (i := 5) rfl
      have fz5 := bn.thaw 5
      have f6 := bn.cell (i := 6) rfl
      have fz6 := bn.thaw 6
      go_wp2_with fail
      have bf := set7_blk bn (.int .i64 0) (.int .i64 0) (.int .i64 0) (.int .i64 0) (.int .i64 0) (.int .i64 0) (.slice none 0 0)
      have d0 := bf.cell (i := 0) rfl
      have d1 := bf.cell (i := 1) rfl
      have d2 := bf.cell (i := 2) rfl
      have d3 := bf.cell (i := 3) rfl
      have d4 := bf.cell (i := 4) rfl
      have d5 := bf.cell (i := 5) rfl
      have d6 := bf.cell (i := 6) rfl
      have xf := set7_ext hx HNW.out (.int .i64 0) (.int .i64 0) (.int .i64 0) (.int .i64 0) (.int .i64 0) (.int .i64 0) (.slice none 0 0)
      unfold set7 at d0 d1 d2 d3 d4 d5 d6 xf
      exact bodyPost_ret (v := .tuple #[.agg #[.int .i64 0, .int .i64 0, .int .i64 0, .int .i64 0, .int .i64 0, .int .i64 0, .slice none 0 0], .int .i64 0, .int .i64 120]) (by simp [results, Try.results20, d0, d1, d2, d3, d4, d5, d6, go_sem]) rfl ⟨.slice none 0 0, by rw [HR.out]; rfl, by rw [HR.out]; exact Ws.nil_ _, xf⟩
end Go.Proofs.Ytocdifjdeifclaa
