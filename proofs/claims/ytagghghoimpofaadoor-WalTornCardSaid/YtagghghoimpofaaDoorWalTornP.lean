/-
  Layer 16 in plain Lean: a log whose last segment was torn is opened, and goes on.
-/
import Derived.Test.YtagghghoimpofaaDoorWalChain
namespace Go.Proofs.YtagghghoimpofaaDoor
open Go Go.RowKit Mono Num Crc
set_option linter.unusedVariables false
set_option linter.unusedSimpArgs false
set_option maxRecDepth 100000

theorem Chn.sync0 {n : Nat} {cs : List (List (List UInt8))} {c : List (List UInt8)} {d : Dk} {l : Lg} (h : Chn n cs c d l) (hp : d.plan = none) : (wSync d l).2 = 0 := by
  rcases wSync_chain h with ⟨P0, f0, hd0, _, _, _, _, he0⟩ | ⟨keep, hd, he⟩
  · rw [he0]
  · rw [dead_none hp] at hd
    cases hd
/-- Such a log is opened again: all its records are told. -/
theorem Chn.open_ {n : Nat} {cs : List (List (List UInt8))} {c : List (List UInt8)} {d : Dk} {l : Lg} (h : Chn n cs c d l) (hp : d.plan = none) (he : endN n cs ≤ 999999999999) (size : Nat) (h1 : 1 ≤ size) (h2 : size ≤ 1048576) :
    ∃ d' l', wOpen d (size : Int) = ⟨d', some l', cs.flatten ++ c, 0⟩ ∧ Chn n cs c d' l' ∧ d'.plan = none ∧ l'.sure + 1 = endN n cs + c.length ∧ d'.used = d.used ∧ d'.room = d.room ∧ l'.size = size ∧ d'.fs.length = d.fs.length ∧ ∃ P f, d'.fs = P ++ [f] ∧ FsOf n cs P ∧ f.name = wname (endN n cs : Nat) ∧ f.b = allOf c ∧ f.sure = f.b.length := by
  obtain ⟨P, f, hfs, hP, hn, hb, j, hj, hs, hq⟩ := h.files
  obtain ⟨k, hk⟩ := wOpen_chain h.ok h.on hp h.pos hfs hP hn he h.recs size h1 h2
  have hfr : frows f.b = (c, (allOf c).length, 0) := by rw [hb]; exact frows_allOf c h.last
  have hok := wOpen_ok h.ok (size : Int)
  rw [hfr] at hk
  rw [hk] at hok
  dsimp only at hk hok
  have htk : f.b.take (allOf c).length = f.b := by rw [hb, List.take_length]
  rw [htk] at hk hok
  have hpos := h.pos
  have hel := endN_le n cs
  refine ⟨_, _, hk, ⟨hok, h.on, rfl, h.pos, rfl, h.recs, h.last, P, _, rfl, hP, hn, hb, c.length, Nat.le_refl _, ?_, ?_⟩, hp, ?_, ?_, rfl, rfl, ?_, P, _, rfl, hP, hn, hb, ?_⟩
  · show endsN c c.length ≤ (allOf c).length
    rw [endsN_len]
    exact Nat.le_refl _
  · show endN n cs + c.length - 1 + 1 ≤ _
    omega
  · show endN n cs + c.length - 1 + 1 = _
    omega
  · show usedF (P ++ [_]) = usedF d.fs
    rw [hfs]
    unfold usedF
    simp
  · show (P ++ [_]).length = d.fs.length
    rw [hfs]
    simp
  · show (allOf c).length = f.b.length
    rw [hb]
theorem allOf_flatten_len : ∀ (cs : List (List (List UInt8))), (allOf cs.flatten).length = (cs.map fun c => (allOf c).length).sum
  | [] => rfl
  | c :: r => by
    have h : allOf (c ++ r.flatten) = allOf c ++ allOf r.flatten := by unfold allOf; rw [List.map_append, List.flatten_append]
    rw [List.flatten_cons, h, List.length_append, allOf_flatten_len r]
    rfl
def nm7 : List UInt8 := wname 7
def onB : List UInt8 := [111, 110]
theorem torn_plain (b : List UInt8) (hb : b.length ≤ 30000) :
    ∃ d1 d2 d3 l1 d4 l2 d5 l3 d6 l4, dMake (Dk.fresh 1048576) nm7 = (d1, 0) ∧ dAppend d1 nm7 b = (d2, 0) ∧ wOpen d2 1000 = ⟨d3, some l1, (frows b).1, 0⟩ ∧ dRead d3 nm7 = (b.take (frows b).2.1, 0) ∧ l1.first = 7 ∧ l1.next = 7 + (frows b).1.length ∧
      wAppend d3 l1 onB = ((d4, l2), 7 + (frows b).1.length, 0) ∧ wSync d4 l2 = ((d5, l3), 0) ∧ wOpen d5 1000 = ⟨d6, some l4, (frows b).1 ++ [onB], 0⟩ := by
  have hm : dMake (Dk.fresh 1048576) nm7 = ((⟨1048576, [⟨nm7, [], 0⟩], true, 1, 0, none⟩ : Dk), 0) := by kernel_rfl
  have hok1 : (⟨1048576, [⟨nm7, [], 0⟩], true, 1, 0, none⟩ : Dk).Ok := by
    have := dMake_ok (fresh_ok (room := 1048576) (by decide)) nm7
    rw [hm] at this
    exact this
  have ha : dAppend (⟨1048576, [⟨nm7, [], 0⟩], true, 1, 0, none⟩ : Dk) nm7 b = ((⟨1048576, [⟨nm7, b, 0⟩], true, 2, 0, none⟩ : Dk), 0) := by
    have := dAppend_some hok1 rfl (P := []) (f := ⟨nm7, [], 0⟩) rfl b (by show 0 + _ ≤ _; omega) (by show 0 + _ ≤ 1048576; omega)
    rw [this]
    rfl
  have hok2 : (⟨1048576, [⟨nm7, b, 0⟩], true, 2, 0, none⟩ : Dk).Ok := by
    have := dAppend_ok hok1 nm7 b
    rw [ha] at this
    exact this
  obtain ⟨hf1, hf2⟩ := frows_form b
  obtain ⟨hf3, hf4⟩ := frows_len b
  obtain ⟨k, hk⟩ := wOpen_chain hok2 rfl rfl (n := 7) (cs := []) (P := []) (f := ⟨nm7, b, 0⟩) (by decide) rfl rfl rfl (by show 7 + 0 ≤ _; decide) (fun c hc => by cases hc) 1000 (by decide) (by decide)
  have hok3 := wOpen_ok hok2 1000
  have hk' : wOpen (⟨1048576, [⟨nm7, b, 0⟩], true, 2, 0, none⟩ : Dk) 1000 = _ := hk
  rw [hk'] at hok3
  obtain ⟨d3, hd3⟩ : ∃ d3, d3 = (⟨1048576, [⟨nm7, b.take (frows b).2.1, (frows b).2.1⟩], true, k, 0, none⟩ : Dk) := ⟨_, rfl⟩
  obtain ⟨l1, hl1⟩ : ∃ l1, l1 = (⟨[⟨7, (frows b).1.length, (frows b).2.1⟩], 1000, 7 + (frows b).1.length - 1, 0⟩ : Lg) := ⟨_, rfl⟩
  have hO : wOpen (⟨1048576, [⟨nm7, b, 0⟩], true, 2, 0, none⟩ : Dk) 1000 = ⟨d3, some l1, (frows b).1, 0⟩ := by rw [hk', hd3, hl1]; rfl
  have hok3' : d3.Ok := by rw [hd3]; exact hok3
  have hnl : (allOf (frows b).1).length = (frows b).2.1 := by rw [← hf1, List.length_take, Nat.min_eq_left hf4]
  have hC : Chn 7 [] (frows b).1 d3 l1 := by
    refine ⟨hok3', by rw [hd3], by rw [hd3, hl1], by decide, by rw [hl1, hnl]; rfl, fun x hx => (by cases hx), hf2, [], ⟨nm7, b.take (frows b).2.1, (frows b).2.1⟩, by rw [hd3]; rfl, rfl, rfl, hf1, (frows b).1.length, Nat.le_refl _, ?_, ?_⟩
    · show endsN _ _ ≤ (frows b).2.1
      rw [endsN_len, hnl]
      exact Nat.le_refl _
    · rw [hl1]
      show 7 + _ - 1 + 1 ≤ 7 + 0 + _
      omega
  have hwo : (wrap onB).length = 8 := by kernel_rfl
  have hus : d3.used = (frows b).2.1 := by
    rw [hd3]
    show usedF [_] = _
    unfold usedF
    simp [List.length_take, Nat.min_eq_left hf4]
  have hpl : d3.plan = none := by rw [hd3]
  have hAQ := wAppend_chain hC onB (by decide) (by show 7 + 0 + _ < _; omega) (by rw [hus, hwo, hd3]; show _ + 8 ≤ 1048576; omega) (by rw [hnl, hwo]; omega) (fun _ _ => by rw [hd3]; show 1 < 64; decide)
  rcases hAQ with ⟨cs', c', hC4, hfl, hne, hr, hPU, hus4, hro4, hsz4, hsu4, _⟩ | ⟨hp, _⟩
  rotate_left
  · exact absurd hpl hp
  have hpl4 := hPU.1 hpl
  generalize hA : wAppend d3 l1 onB = A at *
  obtain ⟨⟨d4, l2⟩, r4⟩ := A
  dsimp only at hC4 hr hPU hus4 hro4 hsz4 hsu4 hpl4
  have hz := hC4.sync0 hpl4
  obtain ⟨hC5, hPU5, -⟩ := hC4.synced hz
  have hpl5 := hPU5.1 hpl4
  generalize hS : wSync d4 l2 = S at *
  obtain ⟨⟨d5, l3⟩, r5⟩ := S
  dsimp only at hz hC5 hPU5 hpl5
  subst hz
  have hend : endN 7 cs' ≤ 999999999999 := by
    have h1 : (cs'.flatten ++ c').length = (([] : List (List (List UInt8))).flatten ++ (frows b).1 ++ [onB]).length := by rw [hfl]
    simp only [List.length_append, List.flatten_nil, List.length_nil, List.length_singleton] at h1
    unfold endN
    omega
  obtain ⟨d6, l4, hO6, -⟩ := hC5.open_ hpl5 hend 1000 (by decide) (by decide)
  refine ⟨_, _, d3, l1, d4, l2, d5, l3, d6, l4, hm, ha, hO, ?_, ?_, ?_, ?_, hS, ?_⟩
  · have hfd := find_ok hok3' (f := ⟨nm7, b.take (frows b).2.1, (frows b).2.1⟩) (by rw [hd3]; simp)
    unfold dRead
    rw [hC.on, if_neg (by decide)]
    have : findF nm7 d3.fs = some ⟨nm7, b.take (frows b).2.1, (frows b).2.1⟩ := hfd
    rw [this]
  · rw [hl1]; rfl
  · have := hC.next
    exact this
  · rw [hA, hr]
    rfl
  · have e : (cs'.flatten ++ c') = (frows b).1 ++ [onB] := by rw [hfl]; rfl
    rw [← e]
    exact hO6
end Go.Proofs.YtagghghoimpofaaDoor
