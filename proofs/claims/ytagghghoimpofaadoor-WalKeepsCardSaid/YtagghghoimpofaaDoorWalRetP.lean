/-
  Layer 16 in plain Lean: segments are let go.
-/
import Derived.Test.YtagghghoimpofaaDoorWalRows
import Derived.Test.YtagghghoimpofaaDoorWalRetire
namespace Go.Proofs.YtagghghoimpofaaDoor
open Go Go.RowKit Mono Num Crc
set_option linter.unusedVariables false
set_option linter.unusedSimpArgs false
set_option maxRecDepth 100000

theorem wrap_len7 (l : List UInt8) (h : l.length ≤ 10000) : (wrap l).length ≤ l.length + 7 := by
  rw [(frame_len l (by omega)).1]
  rcases nsize_cases (l.length : Int) with h | h | h | h | h <;> omega
def wsum : List (List UInt8) → Nat
  | [] => 0
  | x :: r => 20 + x.length + wsum r
theorem wsum_append (a b : List (List UInt8)) : wsum (a ++ b) = wsum a + wsum b := by
  induction a with
  | nil => simp [wsum]
  | cons x a ih => simp only [List.cons_append, wsum, ih]; omega
theorem wsum_mem {ls : List (List UInt8)} {x : List UInt8} (h : x ∈ ls) : x.length + 20 ≤ wsum ls := by
  induction ls with
  | nil => cases h
  | cons y ls ih =>
    unfold wsum
    rcases List.mem_cons.1 h with rfl | h
    · omega
    · have := ih h; omega
theorem allOf_append (a b : List (List UInt8)) : allOf (a ++ b) = allOf a ++ allOf b := by unfold allOf; rw [List.map_append, List.flatten_append]
theorem allOf_wsum : ∀ (ls : List (List UInt8)), wsum ls ≤ 10000 → (allOf ls).length + 13 * ls.length ≤ wsum ls
  | [], _ => by simp [allOf, wsum]
  | x :: r, h => by
    unfold wsum at h ⊢
    have ih := allOf_wsum r (by omega)
    have := wrap_len7 x (by omega)
    rw [allOf_cons, List.length_append, List.length_cons]
    omega
theorem flat_len : ∀ {cs : List (List (List UInt8))}, (∀ x ∈ cs, x ≠ []) → cs.length ≤ cs.flatten.length
  | [], _ => Nat.le_refl _
  | c :: r, h => by
    have ih := flat_len (cs := r) fun x hx => h x (List.mem_cons_of_mem _ hx)
    have := List.length_pos_iff.2 (h c List.mem_cons_self)
    rw [List.flatten_cons, List.length_append, List.length_cons]
    omega
/-- What stands while records are appended. -/
structure RI (size : Nat) (done : List (List UInt8)) (cs : List (List (List UInt8))) (c : List (List UInt8)) (d : Dk) (l : Lg) : Prop where
  ch : Chn 1 cs c d l
  plan : d.plan = none
  size : l.size = size
  all : cs.flatten ++ c = done
  room : d.room = 1048576
  used : d.used = (allOf done).length
  ne : ∀ x ∈ cs, x ≠ []
  few : ∃ F, 300 * cs.length ≤ (allOf cs.flatten).length + F ∧ F ≤ (allOf done).length
theorem Chn.nfs {n : Nat} {cs : List (List (List UInt8))} {c : List (List UInt8)} {d : Dk} {l : Lg} (h : Chn n cs c d l) : d.fs.length = cs.length + 1 := by
  obtain ⟨P, f, hfs, hP, _⟩ := h.files
  rw [hfs, List.length_append, hP.len]
  rfl
theorem RI.step {size : Nat} {done : List (List UInt8)} {cs : List (List (List UInt8))} {c : List (List UInt8)} {d : Dk} {l : Lg} (h : RI size done cs c d l) (hs : 300 ≤ size) (rec : List UInt8) (hw : wsum (done ++ [rec]) ≤ 10000) :
    (wAppend d l rec).2.2 = 0 ∧ ∃ cs' c', RI size (done ++ [rec]) cs' c' (wAppend d l rec).1.1 (wAppend d l rec).1.2 := by
  have hw1 : wsum done + (20 + rec.length) ≤ 10000 := by rw [wsum_append] at hw; simpa [wsum] using hw
  have hT := allOf_wsum done (by omega)
  have hrl := wrap_len7 rec (by omega)
  have hall := h.all
  have hca : (allOf cs.flatten).length + (allOf c).length = (allOf done).length := by rw [← hall, allOf_append, List.length_append]
  have hcn : cs.flatten.length + c.length = done.length := by rw [← hall, List.length_append]
  have hfl := flat_len h.ne
  obtain ⟨F, hF1, hF2⟩ := h.few
  have hA := wAppend_chain h.ch rec (by omega) (by unfold endN; omega) (by rw [h.used, h.room]; omega) (by omega) (fun hc _ => by
    rw [h.ch.nfs]
    have := List.length_pos_iff.2 hc
    omega)
  rcases hA with ⟨cs', c', hC, hfl2, hne, hr, hPU, hus, hro, hsz, hsu, hcase⟩ | ⟨hp, _⟩
  rotate_left
  · exact absurd h.plan hp
  refine ⟨by rw [hr], cs', c', hC, hPU.1 h.plan, by rw [hsz, h.size], by rw [hfl2, hall], by rw [hro, h.room], ?_, ?_, ?_⟩
  · rw [hus, h.used, allOf_snoc, List.length_append]
  · rcases hcase with ⟨rfl, _, _⟩ | ⟨rfl, _, hc, _⟩
    · exact h.ne
    · intro x hx
      rcases List.mem_append.1 hx with hx | hx
      · exact h.ne x hx
      · rw [List.mem_singleton.1 hx]; exact hc
  · rw [allOf_snoc, List.length_append]
    rcases hcase with ⟨rfl, _, _⟩ | ⟨rfl, rfl, hc, hlt⟩
    · exact ⟨F, hF1, by omega⟩
    · rw [h.size] at hlt
      refine ⟨F + (wrap rec).length, ?_, by omega⟩
      rw [List.flatten_append, allOf_append, List.length_append, List.length_append]
      simp only [List.length_singleton, List.flatten_cons, List.flatten_nil, List.append_nil]
      omega
theorem wOpen_fresh (size : Nat) (h1 : 1 ≤ size) (h2 : size ≤ 1048576) : wOpen (Dk.fresh 1048576) (size : Int) = ⟨⟨1048576, [⟨wname 1, [], 0⟩], true, 1, 0, none⟩, some ⟨[⟨1, 0, 0⟩], size, 0, 0⟩, [], 0⟩ := by
  have hm : dMake (Dk.fresh 1048576) (wname 1) = ((⟨1048576, [⟨wname 1, [], 0⟩], true, 1, 0, none⟩ : Dk), 0) := by kernel_rfl
  unfold wOpen
  rw [if_neg (by decide), if_neg (by omega)]
  show (if ([] : List WSeg) = [] then _ else _) = _
  rw [if_pos rfl, hm, if_neg (by decide)]
  unfold wOpened
  rw [Int.toNat_natCast]
  rfl
theorem RI.start (size : Nat) (h1 : 1 ≤ size) (h2 : size ≤ 1048576) : RI size [] [] [] ⟨1048576, [⟨wname 1, [], 0⟩], true, 1, 0, none⟩ ⟨[⟨1, 0, 0⟩], size, 0, 0⟩ := by
  have hok := wOpen_ok (fresh_ok (room := 1048576) (by decide)) (size : Int)
  rw [wOpen_fresh size h1 h2] at hok
  exact ⟨⟨hok, rfl, rfl, by decide, rfl, fun x hx => (by cases hx), fun y hy => (by cases hy), [], ⟨wname 1, [], 0⟩, rfl, rfl, rfl, rfl, 0, Nat.le_refl _, Nat.le_refl _, Nat.le_refl _⟩, rfl, rfl, rfl, rfl, rfl, fun x hx => (by cases hx), 0, Nat.zero_le _, Nat.zero_le _⟩
/-! ### Retire -/
theorem dDrop_first {d : Dk} (hok : d.Ok) (hon : d.on = true) (hp : d.plan = none) {f : Fil} {r : List Fil} (hfs : d.fs = f :: r) : dDrop d f.name = ({ d.tick with fs := r }, 0) := by
  have hfd : findF f.name d.fs = some f := find_ok hok (by rw [hfs]; simp)
  have hs := hok.sorted
  rw [hfs] at hs
  unfold dDrop
  rw [if_neg (by simp [hon]), hfd]
  dsimp only
  rw [count_live _ (dead_none hp)]
  congr 2
  rw [(tick_same d).1, hfs, List.filter_cons_of_neg (by simp)]
  refine List.filter_eq_self.2 fun g hg => ?_
  have := bl_ne (List.rel_of_pairwise_cons hs hg)
  simp only [Bool.not_eq_true', beq_eq_false_iff_ne]
  exact fun e => this e.symm
theorem segs_head (n : Nat) (cs : List (List (List UInt8))) (x : WSeg) (hx : x.frm = endN n cs) : ∃ t r, segsOf n cs ++ [x] = t :: r ∧ t.frm = n := by
  cases cs with
  | nil => exact ⟨x, [], rfl, hx⟩
  | cons c r => exact ⟨_, _, rfl, rfl⟩
theorem Chn.first {n : Nat} {cs : List (List (List UInt8))} {c : List (List UInt8)} {d : Dk} {l : Lg} (h : Chn n cs c d l) : l.first = n := by
  obtain ⟨t, r, h1, h2⟩ := segs_head n cs ⟨endN n cs, c.length, (allOf c).length⟩ rfl
  unfold Lg.first
  rw [h.segs, h1]
  exact h2
theorem wRetireF_chain (lsn : Int) (c : List (List UInt8)) : ∀ (k n : Nat) (cs : List (List (List UInt8))) (d : Dk) (l : Lg), Chn n cs c d l → d.plan = none → l.segs.length ≤ k →
    ∃ cs1 cs2, cs = cs1 ++ cs2 ∧ (wRetireF k d l lsn).2 = 0 ∧ Chn (endN n cs1) cs2 c (wRetireF k d l lsn).1.1 (wRetireF k d l lsn).1.2 ∧ (wRetireF k d l lsn).1.1.plan = none ∧ (cs1 ≠ [] → (endN n cs1 : Int) ≤ lsn)
  | k, n, [], d, l, h, hp, hk => by
    have e := wRetireF_one k d l lsn _ h.segs
    rw [e]
    exact ⟨[], [], rfl, rfl, h, hp, fun hc => absurd rfl hc⟩
  | 0, n, c0 :: r, d, l, h, hp, hk => by
    rw [h.segs] at hk
    simp at hk
  | k + 1, n, c0 :: r, d, l, h, hp, hk => by
    obtain ⟨t, r2, h1, h2⟩ := segs_head (n + c0.length) r ⟨endN n (c0 :: r), c.length, (allOf c).length⟩ (by rw [endN_cons])
    have hsg : l.segs = ⟨n, c0.length, (allOf c0).length⟩ :: t :: r2 := by
      rw [h.segs]
      show _ :: (segsOf _ r ++ _) = _
      rw [h1]
    rw [wRetireF_eq k d l lsn _ t r2 hsg]
    by_cases hle : (t.frm : Int) ≤ lsn
    · rw [if_pos hle]
      obtain ⟨P, f, hfs, hP, hn, hb, j, hj, hs, hq⟩ := h.files
      obtain ⟨g, P', rfl, g1, g2, g3, g4⟩ := hP
      have hokd := dDrop_ok h.ok g.name
      have hdr := dDrop_first h.ok h.on hp (f := g) (r := P' ++ [f]) hfs
      rw [hdr] at hokd
      rw [g1] at hdr
      dsimp only
      rw [hdr, if_neg (by simp [didE])]
      have ht := tick_same d
      have hC : Chn (n + c0.length) r c { d.tick with fs := P' ++ [f] } { l with segs := t :: r2 } := by
        refine ⟨hokd, ht.2.1.trans h.on, ht.2.2.1.trans h.fails, by have := h.pos; omega, ?_, fun x hx => h.recs x (List.mem_cons_of_mem _ hx), h.last, P', f, rfl, g4, by rw [← endN_cons]; exact hn, hb, j, hj, hs, by rw [← endN_cons]; exact hq⟩
        show t :: r2 = _
        rw [← h1, endN_cons]
      obtain ⟨cs1, cs2, e1, e2, e3, e4, e5⟩ := wRetireF_chain lsn c k (n + c0.length) r _ _ hC ((tick_plan d (dead_none hp)).1 hp) (by rw [hsg] at hk; simp at hk ⊢; omega)
      refine ⟨c0 :: cs1, cs2, by rw [e1]; rfl, e2, by rw [endN_cons]; exact e3, e4, fun _ => ?_⟩
      rw [endN_cons]
      by_cases hc1 : cs1 = []
      · subst hc1
        show ((n + c0.length : Nat) : Int) ≤ lsn
        rw [← h2]
        exact hle
      · exact e5 hc1
    · rw [if_neg hle]
      exact ⟨[], c0 :: r, rfl, rfl, h, hp, fun hc => absurd rfl hc⟩
/-- Behind Retire of a log to which all was appended. -/
theorem retire_plain {size : Nat} {ls : List (List UInt8)} {cs : List (List (List UInt8))} {c : List (List UInt8)} {d : Dk} {l : Lg} (h : RI size ls cs c d l) (hw : wsum ls ≤ 10000) (lsn : Int) :
    ∃ d1 l1 d2 l2 d3 l3 first, wRetire d l lsn = ((d1, l1), 0) ∧ wSync d1 l1 = ((d2, l2), 0) ∧ l2.first = first ∧ l2.next = ls.length + 1 ∧ 1 ≤ first ∧ first ≤ ls.length + 1 ∧ (1 < first → (first : Int) ≤ lsn) ∧
      wOpen d2 300 = ⟨d3, some l3, ls.drop (first - 1), 0⟩ ∧ l3.first = first ∧ l3.next = ls.length + 1 ∧ l1.segs ≠ [] ∧ l1.next = ls.length + 1 ∧ l2.segs ≠ [] ∧ l3.segs ≠ [] := by
  obtain ⟨cs1, cs2, e1, e2, e3, e4, e5⟩ := wRetireF_chain lsn c l.segs.length 1 cs d l h.ch h.plan (Nat.le_refl _)
  have hR : wRetire d l lsn = wRetireF l.segs.length d l lsn := by unfold wRetire; rw [h.ch.fault, if_neg (by simp)]
  generalize hX : wRetireF l.segs.length d l lsn = X at *
  obtain ⟨⟨d1, l1⟩, n1⟩ := X
  dsimp only at e2 e3 e4
  subst e2
  have hz := e3.sync0 e4
  obtain ⟨hC2, hPU, -⟩ := e3.synced hz
  have hp2 := hPU.1 e4
  generalize hS : wSync d1 l1 = S at *
  obtain ⟨⟨d2, l2⟩, n2⟩ := S
  dsimp only at hz hC2 hp2
  subst hz
  have hall : cs1.flatten ++ (cs2.flatten ++ c) = ls := by rw [← h.all, e1, List.flatten_append, List.append_assoc]
  have hlen : cs1.flatten.length + (cs2.flatten.length + c.length) = ls.length := by rw [← hall]; simp
  have hT := allOf_wsum ls hw
  have hmost : endN (endN 1 cs1) cs2 ≤ 999999999999 := by unfold endN; omega
  obtain ⟨d3, l3, hO, hC3, -⟩ := hC2.open_ hp2 hmost 300 (by decide) (by decide)
  have hdrop : ls.drop (endN 1 cs1 - 1) = cs2.flatten ++ c := by
    rw [← hall]
    unfold endN
    rw [show 1 + cs1.flatten.length - 1 = cs1.flatten.length by omega, List.drop_left]
  have hnext : ∀ {d l}, Chn (endN 1 cs1) cs2 c d l → l.next = ls.length + 1 := fun hc => by rw [hc.next]; unfold endN; omega
  refine ⟨d1, l1, d2, l2, d3, l3, endN 1 cs1, hR, hS, hC2.first, hnext hC2, by unfold endN; omega, by unfold endN; omega, fun h1 => e5 (fun hc => by rw [hc] at h1; exact absurd h1 (by decide)), by rw [hdrop]; exact hO, hC3.first, hnext hC3, by rw [e3.segs]; simp, hnext e3, by rw [hC2.segs]; simp, by rw [hC3.segs]; simp⟩
end Go.Proofs.YtagghghoimpofaaDoor
