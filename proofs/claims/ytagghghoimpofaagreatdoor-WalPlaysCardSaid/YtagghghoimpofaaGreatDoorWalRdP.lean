/-
 Layer 16: what stands in memory while a log is read.
-/
import Derived.Test.YtagghghoimpofaaGreatDoorWalAppend
import Derived.Test.YtagghghoimpofaaGreatDoorFrameRowsRef
import Derived.Test.YtagghghoimpofaaGreatDoorDkNames
namespace Go.Proofs.YtagghghoimpofaaGreatDoor
open Go Go.RowKit Mono
set_option linter.unusedVariables false
set_option linter.unusedSimpArgs false
set_option maxRecDepth 100000

theorem Kb.grown_ {W W' : World} {r : Option Nat} (h : W.grownBy W' r) {fp : Nat → Prop} (hr : ∀ k, r = some k → fp k) : Kb fp W W' :=
 ⟨h.os, h.tape, h.output, h.size, fun k hk hn => h.block k hk (fun e => hn (hr k e.symm))⟩
theorem grown_ext4 {W W' W0 : World} {v : Value} {base n : Nat} {e : TypeId} {size : Nat} {xs : List Value} (hx : Ext W0 W) (hrow : W.ownsRow base e size v n xs) (hb : W0.heap.size ≤ base) (hg : W.grownBy W' v.ownBlock) : Ext W0 W' :=
 ⟨hg.os.trans hx.os, hg.tape.trans hx.tape, hg.output.trans hx.output, Nat.le_trans hx.size hg.size, fun k hk => (hg.block k (Nat.lt_of_lt_of_le hk hx.size) (fun e => by have := (hrow.lt k e.symm).1; omega)).trans (hx.block k hk)⟩
theorem row_keptT {W W' : World} {z n size : Nat} {e : TypeId} {v : Value} {xs : List Value} {fp : Nat → Prop} (h : W.ownsRow z e size v n xs) (k : Kb fp W W') (hf : ∀ j (C : Array Value) (T : TypeId) fz, fp j → W.heap[j]? = some (.cells C T fz) → T ≠ e) : W'.ownsRow z e size v n xs :=
 row_kept h k fun j hj hq => by
  obtain ⟨cur, hb⟩ := row_type h hj
  exact hf j _ _ _ hq hb rfl
/-- A segment is appended to any row. -/
theorem seg_append0 {z bl bd : Nat} {W : World} {l : Lg} {v : Value} (h : LgM z W bl bd v l) (hz : z ≤ W.heap.size) (hlen : l.segs.length ≤ 1000000000) (s : WSeg) (ty : TypeId) :
  ∃ g' cv' w', (Builtin.append_ #[71, 71] ty #[v, .slice (some ⟨W.heap.size, 0, none⟩) 1 1]).run Tryz.prog (W.alloc (.cells #[.int .i64 (s.frm : Int), .int .i64 (s.count : Int), .int .i64 (s.bytes : Int)] 79)) = .ok (.slice (some ⟨g', 0, none⟩) (l.segs.length + 1) cv') w' ∧
   w'.ownsRow z 79 3 (.slice (some ⟨g', 0, none⟩) (l.segs.length + 1) cv') (l.segs ++ [s]).length (scells (l.segs ++ [s])) ∧ Kb (fun k => v.ownBlock = some k) W w' ∧ BlkT w' bl 75 (lstr v bd l) ∧ (v.ownBlock = some g' ∨ W.heap.size ≤ g') := by
 obtain ⟨i0, hi, hz0, hz1, hz2⟩ := info_parts infoSeg
 have hb := Blk.new W #[.int .i64 (s.frm : Int), .int .i64 (s.count : Int), .int .i64 (s.bytes : Int)] 79
 obtain ⟨v', w', h1, h2, h3, -, h4⟩ := run_append_own_at (P := Tryz.prog) (W.alloc (.cells #[.int .i64 (s.frm : Int), .int .i64 (s.count : Int), .int .i64 (s.bytes : Int)] 79)) z 71 ty 79 i0 _ 3 24 Tryz.underlying71 hi hz0 hz1 hz2 rfl (by decide)
  _ l.segs.length (scells l.segs) (h.row.alloc _) ⟨W.heap.size, 0, none⟩ 1 1 s.cells rfl (fun j u hu => by rw [add_at, Nat.zero_add]; exact hb.cell hu) (by rw [segC]; simp [Value.oneCell']) (by unfold maxLen; omega) (by omega) (by rw [World.size_alloc]; omega)
 have hkb : Kb (fun k => v.ownBlock = some k) W w' := (Kb.of_ext (fp := fun k => v.ownBlock = some k) (ext_alloc W _)).trans (Kb.grown_ h3 (fun k e => e)) (fun _ h => .inl h)
 obtain ⟨g', cv', rfl⟩ : ∃ g' cv', v' = .slice (some ⟨g', 0, none⟩) (l.segs.length + 1) cv' := by
  rcases h2.2 with ⟨_, hn⟩ | ⟨g', cap, cur, hv, _⟩
  ·omega
  ·exact ⟨g', cap, hv⟩
 refine ⟨g', cv', w', h1, ?_, hkb, h.str.kb hkb (fun e => ?_), ?_⟩
 ·rw [List.length_append, List.length_singleton, scells_append, scells_one]
  exact h2
 ·obtain ⟨cur, hbb⟩ := row_type h.row e
  have := h.str
  unfold BlkT at this
  rw [this] at hbb
  injection hbb with hbb
  injection hbb with _ hbb
  revert hbb
  decide
 ·rcases h4 with h4 | h4
  ·exact .inl h4.symm
  ·have h5 : some g' = some (W.alloc (.cells #[.int .i64 (s.frm : Int), .int .i64 (s.count : Int), .int .i64 (s.bytes : Int)] 79)).heap.size := h4
   injection h5 with h5
   rw [World.size_alloc] at h5
   exact .inr (by omega)
theorem OwB.kb2 {W W' : World} {z : Nat} {v : Value} {l : List UInt8} {fp : Nat → Prop} (h : OwB W z v l) (k : Kb fp W W') (hn : ∀ j, v.ownBlock = some j → ¬ fp j) : OwB W' z v l := row_kept h k hn
theorem OwB.type {W : World} {z : Nat} {v : Value} {l : List UInt8} (h : OwB W z v l) {j : Nat} (hj : v.ownBlock = some j) : ∃ cur fz, W.heap[j]? = some (.cells cur 5 fz) := by
 rcases h.2 with ⟨h1, _⟩ | ⟨g, cap, cur, h1, _, hb, _⟩
 ·rw [h1] at hj
  cases hj
 ·rw [h1] at hj
  obtain rfl : g = j := by simpa [Value.ownBlock] using hj
  exact ⟨cur, _, hb⟩
/-- The blocks of rows of bytes. -/
def bsB (v : Value) (vs : List Value) (k : Nat) : Prop := v.ownBlock = some k ∨ ∃ u ∈ vs, u.ownBlock = some k
/-- Rows of bytes, their blocks apart from fp. -/
def BssF (w : World) (z : Nat) (v : Value) (ls : List (List UInt8)) (fp : Nat → Prop) : Prop :=
 ∃ vs, w.ownsRow z 34 1 v vs.length vs ∧ All2 (OwB w z) vs ls ∧ (∀ j, v.ownBlock = some j → ¬ fp j) ∧ ∀ u ∈ vs, ∀ j, u.ownBlock = some j → ¬ fp j
theorem All2.imp_mem {α β : Type} {R S : α → β → Prop} : ∀ {a : List α} {b : List β}, (∀ x ∈ a, ∀ y, R x y → S x y) → All2 R a b → All2 S a b
 | [], [], _, h => h
 | [], _ :: _, _, h => h
 | _ :: _, [], _, h => h
 | x :: a, y :: b, hm, h => ⟨hm x List.mem_cons_self y h.1, All2.imp_mem (fun x hx => hm x (List.mem_cons_of_mem _ hx)) h.2⟩
theorem BssF.bsso {w : World} {z : Nat} {v : Value} {ls : List (List UInt8)} {fp : Nat → Prop} (h : BssF w z v ls fp) : BssO w z v ls := by
 obtain ⟨vs, h1, h2, _⟩ := h
 exact ⟨vs, h1, h2⟩
theorem All2.mem_left {α β : Type} {R : α → β → Prop} : ∀ {a : List α} {b : List β}, All2 R a b → ∀ x ∈ a, ∃ y, R x y
 | [], _, _, x, hx => by cases hx
 | _ :: _, [], h, _, _ => by cases h
 | u :: a, y :: b, h, x, hx => by
  rcases List.mem_cons.1 hx with rfl | hx
  ·exact ⟨y, h.1⟩
  ·exact All2.mem_left h.2 x hx
/-- Rows of bytes lie at or behind z, below the end. -/
theorem BssF.of {w : World} {z : Nat} {v : Value} {ls : List (List UInt8)} {fp : Nat → Prop} (h : BssO w z v ls) (hf : ∀ k, fp k → k < z ∨ w.heap.size ≤ k) : BssF w z v ls fp := by
 obtain ⟨vs, h1, h2⟩ := h
 refine ⟨vs, h1, h2, fun j hj hq => ?_, fun u hu j hj hq => ?_⟩
 ·have := World.ownsRow.lt h1 j hj
  have := hf j hq
  omega
 ·obtain ⟨y, hy⟩ := h2.mem_left u hu
  have := World.ownsRow.lt hy j hj
  have := hf j hq
  omega
theorem BssF.mono {w : World} {z : Nat} {v : Value} {ls : List (List UInt8)} {fp fp' : Nat → Prop} (h : BssF w z v ls fp) (hf : ∀ k, fp' k → k < w.heap.size → fp k) : BssF w z v ls fp' := by
 obtain ⟨vs, h1, h2, h3, h4⟩ := h
 refine ⟨vs, h1, h2, fun j hj hq => h3 j hj (hf j hq (World.ownsRow.lt h1 j hj).2), fun u hu j hj hq => ?_⟩
 obtain ⟨y, hy⟩ := h2.mem_left u hu
 exact h4 u hu j hj (hf j hq (World.ownsRow.lt hy j hj).2)
theorem BssF.kb {w w' : World} {z : Nat} {v : Value} {ls : List (List UInt8)} {fp : Nat → Prop} (h : BssF w z v ls fp) (k : Kb fp w w') : BssF w' z v ls fp := by
 obtain ⟨vs, h1, h2, h3, h4⟩ := h
 exact ⟨vs, row_kept h1 k h3, h2.imp_mem (fun x hx y hy => OwB.kb2 hy k (h4 x hx)), h3, h4⟩
theorem BssF.step {w w' : World} {z : Nat} {v : Value} {ls : List (List UInt8)} {fp fp' : Nat → Prop} (h : BssF w z v ls fp) (c : Cont fp w fp' w') : BssF w' z v ls fp' := by
 obtain ⟨vs, h1, h2, h3, h4⟩ := h
 refine ⟨vs, row_kept h1 c.kb h3, h2.imp_mem (fun x hx y hy => OwB.kb2 hy c.kb (h4 x hx)), fun j hj hq => (c.sub j hq).elim (h3 j hj) (fun hs => Nat.not_lt.2 hs (World.ownsRow.lt h1 j hj).2), fun u hu j hj hq => (c.sub j hq).elim (h4 u hu j hj) (fun hs => ?_)⟩
 obtain ⟨y, hy⟩ := h2.mem_left u hu
 exact Nat.not_lt.2 hs (World.ownsRow.lt hy j hj).2
theorem infoBsl : (Tryz.prog.info? 34).map (fun i => (i.zero, i.size, i.bytes)) = some (some (.slice none 0 0), 1, 24) := infoBs
/-- Rows are appended to rows. -/
theorem bss_append {w : World} {z : Nat} {va vr : Value} {acc ls : List (List UInt8)} (ha : BssO w z va acc) (hr : BssO w z vr ls) (hz : z ≤ w.heap.size) (hl : acc.length + ls.length ≤ 1000000000) (ty : TypeId) :
  ∃ v' w', (Builtin.append_ #[47, 47] ty #[va, vr]).run Tryz.prog w = .ok v' w' ∧ BssO w' z v' (acc ++ ls) ∧ w.grownBy w' va.ownBlock ∧ (∃ A n c, v' = .slice A n c) := by
 obtain ⟨i0, hi, hz0, hz1, hz2⟩ := info_parts infoBsl
 obtain ⟨vs, h1, h2⟩ := ha
 obtain ⟨us, k1, k2⟩ := hr
 have e1 := h2.length
 have e2 := k2.length
 obtain ⟨v', w', hrun, ho, hg, -⟩ := run_append_sl (P := Tryz.prog) w z 47 ty 34 i0 _ 24 Tryz.underlying47 hi hz0 hz1 hz2 rfl (xs := vs) (news := us) h1 (Ow.sl k1) (fun u hu => by
  obtain ⟨y, hy⟩ := k2.mem_left u hu
  obtain ⟨A, c, rfl, -⟩ := hy.bs.open_
  rfl) (by unfold maxLen; omega) (by omega) hz
 refine ⟨v', w', hrun, ⟨vs ++ us, ho, ?_⟩, hg, isSl_row ho⟩
 refine All2.append (h2.mono fun x y hxy => hxy.grownOther h1 (by decide) hg) (k2.mono fun x y hxy => hxy.grownOther h1 (by decide) hg)
end Go.Proofs.YtagghghoimpofaaGreatDoor

/-
 Layer 16: a log is read.
-/
namespace Go.Proofs.YtagghghoimpofaaGreatDoor
open Go Go.RowKit Mono
set_option linter.unusedVariables false
set_option linter.unusedSimpArgs false
set_option maxRecDepth 100000
set_option maxHeartbeats 4000000

/-- What stands while segments are read. -/
structure RdJ (W0 W : World) (bd bl bm pl : Nat) (d : Dk) (ms : List FilM) (size fails : Nat) (ss : List WSeg) (v : Value) (acc : List (List UInt8)) (va : Value) (wr : World) : Prop where
 cx : Cx W0 wr bd bl bm pl d ms v ⟨ss, size, 0, fails⟩
 kb : Kb (fun k => k = bl) W wr
 vnew : ∀ j, v.ownBlock = some j → W.heap.size ≤ j
 acc : BssO wr W.heap.size va acc
theorem BssO.ext {w w' : World} {z : Nat} {v : Value} {ls : List (List UInt8)} (h : BssO w z v ls) (k : Ext w w') : BssO w' z v ls := by
 obtain ⟨vs, h1, h2⟩ := h
 exact ⟨vs, Ow.ext h1 k, h2.mono fun _ _ hy => hy.ext k⟩
theorem BssO.mono {w : World} {z z' : Nat} {v : Value} {ls : List (List UInt8)} (h : BssO w z v ls) (k : z' ≤ z) : BssO w z' v ls := by
 obtain ⟨vs, h1, h2⟩ := h
 exact ⟨vs, row_down h1 k, h2.mono fun _ _ hy => OwB.mono hy k⟩
theorem BssO.kb {w w' : World} {z : Nat} {v : Value} {ls : List (List UInt8)} {fp : Nat → Prop} (h : BssO w z v ls) (k : Kb fp w w') (hf : ∀ j (C : Array Value) (T : TypeId) fz, fp j → w.heap[j]? = some (.cells C T fz) → T ≠ 34 ∧ T ≠ 5) : BssO w' z v ls := by
 obtain ⟨vs, h1, h2⟩ := h
 refine ⟨vs, row_kept h1 k fun j hj hq => ?_, h2.mono fun x y hy => OwB.kb2 hy k fun j hj hq => ?_⟩
 ·obtain ⟨cur, hb⟩ := row_type h1 hj
  exact (hf j _ _ _ hq hb).1 rfl
 ·obtain ⟨cur, fz, hb⟩ := hy.type hj
  exact (hf j _ _ _ hq hb).2 rfl
theorem RdJ.ext {W0 W : World} {bd bl bm pl : Nat} {d : Dk} {ms : List FilM} {size fails : Nat} {ss : List WSeg} {v va : Value} {acc : List (List UInt8)} {wr w : World} (h : RdJ W0 W bd bl bm pl d ms size fails ss v acc va wr) (k : Ext wr w) : RdJ W0 W bd bl bm pl d ms size fails ss v acc va w :=
 ⟨h.cx.ext k, h.kb.trans (Kb.of_ext (fp := fun k => k = bl) k) (fun _ h => .inl h), h.vnew, h.acc.ext k⟩
theorem LgM.ltype {z bl bd : Nat} {W : World} {v : Value} {l : Lg} (h : LgM z W bl bd v l) : ∀ j (C : Array Value) (T : TypeId) fz, lall bl v j → W.heap[j]? = some (.cells C T fz) → T = 75 ∨ T = 79 := by
 rintro j C T fz (rfl | hq) hb
 ·have := h.str
  unfold BlkT at this
  rw [this] at hb
  injection hb with hb
  injection hb with _ hb _
  exact .inl hb.symm
 ·obtain ⟨cur, hb2⟩ := row_type h.row hq
  rw [hb2] at hb
  injection hb with hb
  injection hb with _ hb _
  exact .inr hb.symm
/-- A segment is laid behind the others. -/
theorem RdJ.seg {W0 W : World} {bd bl bm pl : Nat} {d : Dk} {ms : List FilM} {size fails : Nat} {ss : List WSeg} {v va : Value} {acc : List (List UInt8)} {wr : World} (h : RdJ W0 W bd bl bm pl d ms size fails ss v acc va wr) (hlen : ss.length ≤ 1000000000) (s : WSeg) (ty : TypeId) :
  ∃ g' cv' w4, (Builtin.append_ #[71, 71] ty #[v, .slice (some ⟨wr.heap.size, 0, none⟩) 1 1]).run Tryz.prog (wr.alloc (.cells #[.int .i64 (s.frm : Int), .int .i64 (s.count : Int), .int .i64 (s.bytes : Int)] 79)) = .ok (.slice (some ⟨g', 0, none⟩) (ss.length + 1) cv') w4 ∧
   w4.cell? ⟨bl, 0, none⟩ = some v ∧ w4.frozen? ⟨bl, 0, none⟩ = false ∧ Kb (lall bl v) wr (w4.setCell ⟨bl, 0, none⟩ (.slice (some ⟨g', 0, none⟩) (ss.length + 1) cv')) ∧ RdJ W0 W bd bl bm pl d ms size fails (ss ++ [s]) (.slice (some ⟨g', 0, none⟩) (ss.length + 1) cv') acc va (w4.setCell ⟨bl, 0, none⟩ (.slice (some ⟨g', 0, none⟩) (ss.length + 1) cv')) := by
 have hlen' : (⟨ss, size, 0, fails⟩ : Lg).segs.length ≤ 1000000000 := hlen
 obtain ⟨g', cv', w4, hrun, hrow, hkb, hstr, hg⟩ := seg_append0 h.cx.hl h.cx.hx.size hlen' s ty
 have hsw := LgM.swap (l := ⟨ss, size, 0, fails⟩) (l' := ⟨ss ++ [s], size, 0, fails⟩) hstr h.cx.hl.zl hrow ⟨rfl, rfl, rfl⟩
 have hk4 : Kb (lall bl v) wr (w4.setCell ⟨bl, 0, none⟩ (.slice (some ⟨g', 0, none⟩) (ss.length + 1) cv')) := (hkb.mono fun b hb => .inr hb).trans (Kb.set (lall bl v) w4 bl 0 _ (.inl rfl)) (fun _ h => .inl h)
 have hall : ∀ j, lall bl (.slice (some ⟨g', 0, none⟩) (ss.length + 1) cv') j → lall bl v j ∨ wr.heap.size ≤ j := by
  rintro j (hj | hj)
  ·exact .inl (.inl hj)
  ·obtain rfl : g' = j := by simpa [Value.ownBlock] using hj
   exact hg.imp .inr id
 obtain ⟨hc4, hs4⟩ := h.cx.put hsw hk4 hall
 refine ⟨g', cv', w4, hrun, hstr.blk.cell (i := 0) rfl, hstr.blk.thaw 0, hk4, hc4, ?_, ?_, ?_⟩
 ·refine ⟨hk4.os.trans h.kb.os, hk4.tape.trans h.kb.tape, hk4.output.trans h.kb.output, Nat.le_trans h.kb.size hk4.size, fun k hk hn => (hk4.block k (Nat.lt_of_lt_of_le hk h.kb.size) ?_).trans (h.kb.block k hk hn)⟩
  rintro (hq | hq)
  ·exact hn hq
  ·exact Nat.not_lt.2 (h.vnew k hq) hk
 ·intro j hj
  obtain rfl : g' = j := by simpa [Value.ownBlock] using hj
  rcases hg with hg | hg
  ·exact h.vnew _ hg
  ·exact Nat.le_trans h.kb.size hg
 ·refine h.acc.kb hk4 ?_
  rintro j C T fz hq hb
  rcases hq with rfl | hq
  ·have := h.cx.hl.str
   unfold BlkT at this
   rw [this] at hb
   injection hb with hb
   injection hb with _ hb _
   rw [← hb]
   decide
  ·obtain ⟨cur, hb2⟩ := row_type h.cx.hl.row hq
   rw [hb2] at hb
   injection hb with hb
   injection hb with _ hb _
   rw [← hb]
   decide
/-- Records are laid behind the others. -/
theorem RdJ.app {W0 W : World} {bd bl bm pl : Nat} {d : Dk} {ms : List FilM} {size fails : Nat} {ss : List WSeg} {v va vr : Value} {acc ls : List (List UInt8)} {wr : World} (h : RdJ W0 W bd bl bm pl d ms size fails ss v acc va wr) (hz : W0.heap.size ≤ W.heap.size) (hbl : bl < W.heap.size) (hr : BssO wr W.heap.size vr ls) (hl : acc.length + ls.length ≤ 1000000000) (ty : TypeId) :
  ∃ A n c w', (Builtin.append_ #[47, 47] ty #[va, vr]).run Tryz.prog wr = .ok (.slice A n c) w' ∧ Kb (fun k => va.ownBlock = some k) wr w' ∧ (∀ j (C : Array Value) (T : TypeId) fz, va.ownBlock = some j → wr.heap[j]? = some (.cells C T fz) → T = 34) ∧ RdJ W0 W bd bl bm pl d ms size fails ss v (acc ++ ls) (.slice A n c) w' := by
 obtain ⟨v', w', hrun, ho, hg, ⟨A, n, c, rfl⟩⟩ := bss_append h.acc hr h.kb.size hl ty
 have hk : Kb (fun k => va.ownBlock = some k) wr w' := Kb.grown_ hg fun k e => e
 obtain ⟨vs, h1, -⟩ := h.acc
 have hty : ∀ j, va.ownBlock = some j → ∃ cur, wr.heap[j]? = some (.cells cur 34 (0, 0)) := fun j hj => row_type h1 hj
 have hlow : ∀ j, va.ownBlock = some j → W.heap.size ≤ j := fun j hj => (World.ownsRow.lt h1 j hj).1
 have dis : ∀ j T L, va.ownBlock = some j → BlkT wr j T L → T ≠ 34 → False := fun j T L hj hb hT => by
  obtain ⟨cur, hc⟩ := hty j hj
  unfold BlkT at hb
  rw [hb] at hc
  injection hc with hc
  injection hc with _ hc
  exact hT hc
 have hdd := h.cx.hd
 have hdl : ∀ k, dall bd bm pl d ms k → ¬ va.ownBlock = some k := by
  rintro k hk hq
  obtain ⟨cur, hc⟩ := hty k hq
  rcases hk with (rfl | rfl | ⟨hp, rfl⟩ | ⟨m, hm, rfl⟩) | ⟨m, hm, hj⟩
  ·exact dis _ _ _ hq hdd.str (by decide)
  ·obtain ⟨n', D, ⟨es, clock, hb', _⟩, _⟩ := hdd.map
   rw [hb'] at hc
   cases hc
  ·obtain ⟨⟨n', kk⟩, hp⟩ := Option.isSome_iff_exists.1 hp
   exact dis _ _ _ hq (hdd.plan n' kk hp).1 (by decide)
  ·exact dis _ _ _ hq (hdd.files m hm).1 (by decide)
  ·obtain ⟨_, C, fz', h2⟩ := (hdd.bytes m hm).typed k hj
   rw [h2] at hc
   injection hc with hc
   injection hc with _ hc
   revert hc
   decide
 have hll : ∀ k, lall bl v k → ¬ va.ownBlock = some k := by
  rintro k (rfl | hk) hq
  ·exact dis _ _ _ hq h.cx.hl.str (by decide)
  ·obtain ⟨cur, hc⟩ := hty k hq
   obtain ⟨cur2, hc2⟩ := row_type h.cx.hl.row hk
   rw [hc2] at hc
   injection hc with hc
   injection hc with _ hc
   revert hc
   decide
 refine ⟨A, n, c, w', hrun, hk, fun j C T fz hj hb => ?_, ⟨?_, h.cx.hl.kb hk hll, hk.ext h.cx.hx (fun b hb => Nat.le_trans hz (hlow b hb)), h.cx.hT⟩, ?_, h.vnew, ho⟩
 ·obtain ⟨cur, hc⟩ := hty j hj
  rw [hc] at hb
  injection hb with hb
  injection hb with _ hb _
  exact hb.symm
 ·exact hdd.kb hk (fun j hj => hdl j (.inl hj)) (fun m hm j hj => hdl j (.inr ⟨m, hm, hj⟩))
 ·exact ⟨hk.os.trans h.kb.os, hk.tape.trans h.kb.tape, hk.output.trans h.kb.output, Nat.le_trans h.kb.size hk.size, fun k hk2 hn => (hk.block k (Nat.lt_of_lt_of_le hk2 h.kb.size) fun hq => Nat.not_lt.2 (hlow k hq) hk2).trans (h.kb.block k hk2 hn)⟩
theorem feltsF_end : ∀ (f at_ : Nat) (l : List UInt8), ∀ x ∈ feltsF f at_ l, x.2.1 ≤ at_ + l.length
 | 0, _, _, x, hx => by cases hx
 | f + 1, at_, l, x, hx => by
  have hle := fopen_le l
  unfold feltsF at hx
  by_cases h0 : l.length = 0
  ·rw [if_pos h0] at hx; cases hx
  ·rw [if_neg h0] at hx
   rcases List.mem_cons.1 hx with rfl | hx
   ·show at_ + _ ≤ _
    omega
   ·by_cases he : (fopen l).2.2 = 0
    ·rw [if_pos he] at hx
     have := feltsF_end f _ _ x hx
     rw [List.length_drop] at this
     omega
    ·rw [if_neg he] at hx; cases hx
theorem frows_len (l : List UInt8) : (frows l).1.length ≤ l.length ∧ (frows l).2.1 ≤ l.length := by
 unfold frows
 constructor
 ·rw [List.length_map]
  exact Nat.le_trans (List.length_filter_le _ _) (feltsF_len _ _ _)
 ·dsimp only
  cases h : (felts 0 l).getLast? with
  | none => exact Nat.zero_le _
  | some x =>
   have := feltsF_end _ 0 l x (List.mem_of_getLast? h)
   dsimp only
   omega
def isRead (z : Nat) (b : List UInt8) (e : Nat) : MRel := ⟨fun v w => ∃ vb, v = .tuple #[vb, .int .i64 (e : Int)] ∧ OwB w z vb b, fun v w w' ⟨vb, h1, h2⟩ he => ⟨vb, h1, h2.ext he⟩⟩
def isOwB (z : Nat) (b : List UInt8) : MRel := ⟨fun v w => OwB w z v b, fun v w w' h he => h.ext he⟩
theorem BssO.form {w : World} {z : Nat} {v : Value} {ls : List (List UInt8)} (h : BssO w z v ls) : ∃ A c, v = .slice A ls.length c := by
 obtain ⟨vs, h1, h2⟩ := h
 rw [← h2.length]
 rcases h1.2 with ⟨rfl, hn⟩ | ⟨g, cap, cur, rfl, _⟩
 ·exact ⟨none, 0, by rw [hn]⟩
 ·exact ⟨_, cap, rfl⟩
theorem ow_of_row {w : World} {b n : Nat} {e : TypeId} {v : Value} {xs : List Value} (h : w.ownsRow b e 1 v n xs) : Ow e w b v xs := by
 have h1 := h.1
 rw [Nat.mul_one] at h1
 subst h1
 exact h
def iv64 (n : Nat) : Value := .int .i64 (n : Int)
theorem infoIn : (Tryz.prog.info? 3).map (fun i => (i.zero, i.size, i.bytes)) = some (some (.int .i64 0), 1, 8) := by kernel_rfl
end Go.Proofs.YtagghghoimpofaaGreatDoor
