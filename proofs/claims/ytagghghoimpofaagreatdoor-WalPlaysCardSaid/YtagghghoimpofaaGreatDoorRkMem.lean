/-
 Layer 15: the document's disk in memory.
-/
import Derived.Test.YtagghghoimpofaaGreatDoorDkAppend
namespace Go.Proofs.YtagghghoimpofaaGreatDoor
open Go Go.RowKit Mono
set_option linter.unusedVariables false
set_option linter.unusedSimpArgs false
set_option maxRecDepth 100000

/-- A file of the document's disk, in memory. -/
structure RFil where
 name : List UInt8
 v : Value
 b : List UInt8
 sure : Nat
def RFil.fil (m : RFil) : Fil := ⟨m.name, m.b, m.sure⟩
def RFil.cells (m : RFil) : List Value := [strV m.name, m.v, .int .i64 (m.sure : Int)]
def rcells (ms : List RFil) : List Value := ms.flatMap RFil.cells
theorem rcells_append (a b : List RFil) : rcells (a ++ b) = rcells a ++ rcells b := by unfold rcells; simp
theorem rcells_get : ∀ {ms : List RFil} {i : Nat} {m : RFil}, ms[i]? = some m → (rcells ms)[i * 3]? = some (strV m.name) ∧ (rcells ms)[i * 3 + 1]? = some m.v ∧ (rcells ms)[i * 3 + 2]? = some (.int .i64 (m.sure : Int))
 | [], i, m, h => by simp at h
 | a :: r, 0, m, h => by
  obtain rfl : a = m := by simpa using h
  unfold rcells
  simp [RFil.cells]
 | a :: r, i + 1, m, h => by
  have ih := rcells_get (ms := r) (i := i) (m := m) (by simpa using h)
  have e : rcells (a :: r) = a.cells ++ rcells r := by unfold rcells; simp
  have hl : a.cells.length = 3 := rfl
  rw [e]
  refine ⟨?_, ?_, ?_⟩
  ·rw [List.getElem?_append_right (by rw [hl]; omega), hl, show (i + 1) * 3 - 3 = i * 3 by omega]
   exact ih.1
  ·rw [List.getElem?_append_right (by rw [hl]; omega), hl, show (i + 1) * 3 + 1 - 3 = i * 3 + 1 by omega]
   exact ih.2.1
  ·rw [List.getElem?_append_right (by rw [hl]; omega), hl, show (i + 1) * 3 + 2 - 3 = i * 3 + 2 by omega]
   exact ih.2.2
/-- What the document's disk holds beside its files: the slice, its files, the plan's cells. -/
structure RSt where
 v : Value
 ms : List RFil
 n : Int
 k : Int
def rstr (r : Dk) (s : RSt) : List Value := [.int .i64 (r.room : Int), s.v, .bool (!r.on), .int .i64 (r.fails : Int), .int .i64 (r.ops : Int), .bool r.plan.isSome, .int .i64 s.n, .int .i64 s.k]
/-- The disk r in memory, at or behind z. -/
structure RkM (z : Nat) (W : World) (br : Nat) (s : RSt) (r : Dk) : Prop where
 fs : s.ms.map RFil.fil = r.fs
 str : BlkT W br 45 (rstr r s)
 plan : ∀ n k, r.plan = some (n, k) → s.n = (n : Int) ∧ s.k = k
 row : W.ownsRow z 114 3 s.v s.ms.length (rcells s.ms)
 bytes : ∀ m ∈ s.ms, BsT z W m.v m.b
 zd : z ≤ br
def rall (br : Nat) (s : RSt) (k : Nat) : Prop := k = br ∨ s.v.ownBlock = some k ∨ ∃ m ∈ s.ms, m.v.ownBlock = some k
theorem row_kb {W W' : World} {z n size : Nat} {e : TypeId} {v : Value} {xs : List Value} {fp : Nat → Prop} (h : W.ownsRow z e size v n xs) (k : Kb fp W W') (hn : ∀ j, v.ownBlock = some j → ¬ fp j) : W'.ownsRow z e size v n xs := by
 refine ⟨h.1, ?_⟩
 rcases h.2 with h1 | ⟨g, cap, cur, rfl, hb, hg, rest⟩
 ·exact .inl h1
 ·exact .inr ⟨g, cap, cur, rfl, hb, (k.block g (Array.getElem?_eq_some_iff.1 hg).1 (hn g rfl)).trans hg, rest⟩
theorem RkM.kb {z br : Nat} {W W' : World} {s : RSt} {r : Dk} {fp : Nat → Prop} (h : RkM z W br s r) (k : Kb fp W W') (hn : ∀ j, rall br s j → ¬ fp j) : RkM z W' br s r :=
 ⟨h.fs, h.str.kb k (hn br (.inl rfl)), h.plan, row_kb h.row k (fun j hj => hn j (.inr (.inl hj))), fun m hm => (h.bytes m hm).kb k (fun j hj => hn j (.inr (.inr ⟨m, hm, hj⟩))), h.zd⟩
theorem RkM.ext {z br : Nat} {W W' : World} {s : RSt} {r : Dk} (h : RkM z W br s r) (he : Ext W W') : RkM z W' br s r := h.kb (Kb.of_ext (fp := fun _ => False) he) (fun _ _ h => h)
theorem RkM.lt {z br : Nat} {W : World} {s : RSt} {r : Dk} (h : RkM z W br s r) : ∀ k, rall br s k → k < W.heap.size := by
 rintro k (rfl | hj | ⟨m, hm, hj⟩)
 ·exact h.str.lt
 ·exact (World.ownsRow.lt h.row k hj).2
 ·obtain ⟨_, C, fz, h2⟩ := (h.bytes m hm).typed k hj
  exact (Array.getElem?_eq_some_iff.1 h2).1
theorem RkM.low {z br : Nat} {W : World} {s : RSt} {r : Dk} (h : RkM z W br s r) : ∀ k, rall br s k → z ≤ k := by
 rintro k (rfl | hj | ⟨m, hm, hj⟩)
 ·exact h.zd
 ·exact (World.ownsRow.lt h.row k hj).1
 ·exact ((h.bytes m hm).typed k hj).1
/-- The slice's shape. -/
theorem RkM.form {z br : Nat} {W : World} {s : RSt} {r : Dk} (h : RkM z W br s r) : ∃ A c, s.v = .slice A s.ms.length c ∧ s.ms.length ≤ c ∧ c ≤ maxLen ∧ (0 < s.ms.length → ∃ g, A = some ⟨g, 0, none⟩) := by
 rcases h.row.2 with ⟨h1, h2⟩ | ⟨g, cap, cur, h1, _, _, h3, h4, _⟩
 ·exact ⟨none, 0, by rw [h1, h2], by omega, Nat.zero_le _, fun h => by omega⟩
 ·exact ⟨_, cap, h1, h3, h4, fun _ => ⟨g, rfl⟩⟩
theorem RkM.cells {z br : Nat} {W : World} {s : RSt} {r : Dk} (h : RkM z W br s r) {g n c : Nat} (hv : s.v = .slice (some ⟨g, 0, none⟩) n c) {i : Nat} {m : RFil} (hm : s.ms[i]? = some m) :
  W.cell? ⟨g, i * 3, none⟩ = some (strV m.name) ∧ W.cell? ⟨g, i * 3 + 1, none⟩ = some m.v ∧ W.cell? ⟨g, i * 3 + 2, none⟩ = some (.int .i64 (m.sure : Int)) := by
 rcases h.row.2 with ⟨h1, h2⟩ | ⟨g', cap, cur, h1, _, hg, h3, h4, h5, h6⟩
 ·rw [hv] at h1
  cases h1
 ·rw [hv] at h1
  injection h1 with e1 e2 e3
  injection e1 with e1
  injection e1 with e1 _ _
  subst e1
  have hil : i < s.ms.length := (List.getElem?_eq_some_iff.1 hm).1
  obtain ⟨c1, c2, c3⟩ := rcells_get hm
  have at_ : ∀ j u, (rcells s.ms)[j]? = some u → W.cell? ⟨g, j, none⟩ = some u := by
   intro j u hu
   rw [← h6] at hu
   have hj : j < s.ms.length * 3 := by
    have := (List.getElem?_eq_some_iff.1 hu).1
    simp at this
    omega
   rw [List.getElem?_take_of_lt hj] at hu
   simp only [World.cell?, hg, Option.isSome_none, Bool.false_eq_true, if_false]
   rw [← Array.getElem?_toList, hu]
  exact ⟨at_ _ _ c1, at_ _ _ c2, at_ _ _ c3⟩
theorem RkM.ne {z br : Nat} {W : World} {s : RSt} {r : Dk} (h : RkM z W br s r) {g : Nat} (hg : s.v.ownBlock = some g) : g ≠ br := by
 rcases h.row.2 with ⟨h1, h2⟩ | ⟨g', cap, cur, h1, _, hb, _⟩
 ·rw [h1] at hg
  cases hg
 ·rw [h1] at hg
  obtain rfl : g' = g := by simpa [Value.ownBlock] using hg
  rintro rfl
  have := h.str
  unfold BlkT at this
  rw [this] at hb
  injection hb with hb
  injection hb with _ hb
  revert hb
  decide
theorem RkM.bne {z br : Nat} {W : World} {s : RSt} {r : Dk} (h : RkM z W br s r) {g : Nat} (hg : s.v.ownBlock = some g) {v : Value} {b : List UInt8} (hv : BsT z W v b) : ∀ j, v.ownBlock = some j → j ≠ g := by
 rintro j hj rfl
 obtain ⟨_, C, fz, h2⟩ := hv.typed j hj
 rcases h.row.2 with ⟨h1, _⟩ | ⟨g', cap, cur, h1, _, hb, _⟩
 ·rw [h1] at hg
  cases hg
 ·rw [h1] at hg
  obtain rfl : g' = j := by simpa [Value.ownBlock] using hg
  rw [hb] at h2
  injection h2 with h2
  injection h2 with _ h2
  revert h2
  decide
/-- A field of the disk is written. -/
theorem RkM.put {z br : Nat} {W : World} {s s' : RSt} {r r' : Dk} (h : RkM z W br s r) (i : Nat) (v : Value) (hc : (rstr r s).set i v = rstr r' s') (hms : s'.ms = s.ms) (hv : s'.v = s.v) (hfs : r'.fs = r.fs) (hp : ∀ n k, r'.plan = some (n, k) → s'.n = (n : Int) ∧ s'.k = k) :
  RkM z (W.setCell ⟨br, i, none⟩ v) br s' r' := by
 have hset := h.str.set i v
 rw [hc] at hset
 have hkb := Kb.set (fun k => k = br) W br i v rfl
 refine ⟨by rw [hms, hfs]; exact h.fs, hset, hp, ?_, ?_, h.zd⟩
 ·rw [hms, hv]
  exact row_kb h.row hkb (fun j hj e => h.ne hj e)
 ·rw [hms]
  exact fun m hm => (h.bytes m hm).kb hkb (fun j hj e => (h.bytes m hm).ne h.str (by decide) j hj e)
/-- A cell of a file is written. -/
theorem RkM.fput {z br : Nat} {W : World} {s : RSt} {r r' : Dk} (h : RkM z W br s r) {g n c : Nat} (hv : s.v = .slice (some ⟨g, 0, none⟩) n c) {i : Nat} {m m' : RFil} (hm : s.ms[i]? = some m) (j : Nat) (u : Value)
  (hc : (rcells s.ms).set (i * 3 + j) u = rcells (s.ms.set i m')) (hbs : BsT z W m'.v m'.b) (hr : rstr r' s = rstr r s) (hp : r'.plan = r.plan) (hfs : (s.ms.set i m').map RFil.fil = r'.fs) :
  RkM z (W.setCell ⟨g, i * 3 + j, none⟩ u) br { s with ms := s.ms.set i m' } r' := by
 have hg : s.v.ownBlock = some g := by rw [hv]; rfl
 have hkb := Kb.set (fun k => k = g) W g (i * 3 + j) u rfl
 obtain ⟨A, c', hf, _⟩ := h.form
 have hn : n = s.ms.length := by rw [hf] at hv; injection hv with _ hv _; exact hv.symm
 subst hn
 have hrow := h.row
 rw [hv] at hrow
 have hst := (hrow.stored (i * 3 + j) u).1
 rw [hc] at hst
 have hl : (s.ms.set i m').length = s.ms.length := by simp
 refine ⟨hfs, ?_, by rw [hp]; exact h.plan, ?_, fun x hx => ?_, h.zd⟩
 ·have : rstr r' { s with ms := s.ms.set i m' } = rstr r s := hr
  rw [this]
  exact h.str.kb hkb (fun e => h.ne hg e.symm)
 ·show World.ownsRow _ _ _ _ s.v (s.ms.set i m').length (rcells (s.ms.set i m'))
  rw [hv, hl]
  exact hst
 ·rcases List.mem_or_eq_of_mem_set hx with hx | rfl
  ·exact (h.bytes x hx).kb hkb (fun j hj e => h.bne hg (h.bytes x hx) j hj e)
  ·exact hbs.kb hkb (fun j hj e => h.bne hg hbs j hj e)
/-- A call has turned the disk r into r', and nothing else. -/
structure RkS (z : Nat) (W W' : World) (br : Nat) (s : RSt) (r : Dk) (s' : RSt) (r' : Dk) : Prop where
 rk : RkM z W' br s' r'
 kb : Kb (rall br s) W W'
 fp : ∀ k, rall br s' k → rall br s k ∨ W.heap.size ≤ k
theorem RkS.ext {z br : Nat} {W W' : World} {s : RSt} {r : Dk} (h : RkM z W br s r) (he : Ext W W') : RkS z W W' br s r s r := ⟨h.ext he, Kb.of_ext he, fun _ h => .inl h⟩
theorem RkS.refl {z br : Nat} {W : World} {s : RSt} {r : Dk} (h : RkM z W br s r) : RkS z W W br s r s r := RkS.ext h (Ext.refl _)
theorem RkS.trans {z br : Nat} {W W1 W2 : World} {s s1 s2 : RSt} {r r1 r2 : Dk} (h : RkS z W W1 br s r s1 r1) (k : RkS z W1 W2 br s1 r1 s2 r2) : RkS z W W2 br s r s2 r2 := by
 refine ⟨k.rk, h.kb.trans k.kb h.fp, fun b hb => ?_⟩
 rcases k.fp b hb with h1 | h1
 ·exact h.fp b h1
 ·exact .inr (Nat.le_trans h.kb.size h1)
def RkPost (z : Nat) (W : World) (br : Nat) (s : RSt) (r : Dk) (x : Dk × Nat) (e : Ending) (w' : World) : Prop := ∃ s', e = .returned (.int .i64 (x.2 : Int)) ∧ RkS z W w' br s r s' x.1
theorem RkPost.same {z br : Nat} {W W' : World} {s : RSt} {r : Dk} (h : RkM z W br s r) (he : Ext W W') (n : Nat) : RkPost z W br s r (r, n) (.returned (.int .i64 (n : Int))) W' := ⟨s, rfl, RkS.ext h he⟩
/-- A file's place. -/
def findI (name : List UInt8) (fs : List Fil) : Option Nat := fs.findIdx? fun f => f.name == name
def findZ (name : List UInt8) (fs : List Fil) : Int := match findI name fs with
 | some i => (i : Int)
 | none => -1
theorem findI_spec (name : List UInt8) : ∀ fs : List Fil, (∀ i, findI name fs = some i → ∃ f, fs[i]? = some f ∧ findF name fs = some f) ∧ (findI name fs = none → findF name fs = none)
 | [] => ⟨fun i h => by simp [findI] at h, fun _ => rfl⟩
 | f :: r => by
  have ih := findI_spec name r
  unfold findI findF at *
  rw [List.findIdx?_cons, List.find?_cons]
  by_cases hf : (f.name == name) = true
  ·rw [if_pos hf, hf]
   exact ⟨fun i h => by injection h with h; subst h; exact ⟨f, rfl, rfl⟩, fun h => by cases h⟩
  ·have hf' : (f.name == name) = false := by simpa using hf
   rw [if_neg hf, hf']
   refine ⟨fun i h => ?_, fun h => ?_⟩
   ·cases hx : r.findIdx? (fun f => f.name == name) with
    | none => rw [hx] at h; cases h
    | some j =>
     rw [hx] at h
     injection h with h
     subst h
     obtain ⟨f', h1, h2⟩ := ih.1 j hx
     exact ⟨f', by simpa using h1, h2⟩
   ·cases hx : r.findIdx? (fun f => f.name == name) with
    | none => exact ih.2 hx
    | some j => rw [hx] at h; cases h
end Go.Proofs.YtagghghoimpofaaGreatDoor

/-
 Layer 15: the document's disk: a file's place, the counts, a new disk, a plan, power, a file's bytes.
-/
namespace Go.Proofs.YtagghghoimpofaaGreatDoor
open Go Go.RowKit Mono
set_option linter.unusedVariables false
set_option linter.unusedSimpArgs false
set_option maxRecDepth 100000
set_option maxHeartbeats 1000000

theorem findI_step {name : List UInt8} {fs : List Fil} {i : Nat} {f : Fil} (hpre : ∀ j, j < i → ∀ x, fs[j]? = some x → x.name ≠ name) (hf : fs[i]? = some f) (he : f.name = name) : findZ name fs = (i : Int) := by
 have : findI name fs = some i := by
  unfold findI
  rw [List.findIdx?_eq_some_iff_getElem]
  have hi := (List.getElem?_eq_some_iff.1 hf).1
  have hfe := (List.getElem?_eq_some_iff.1 hf).2
  refine ⟨hi, by rw [hfe]; simpa using he, fun j hj => ?_⟩
  have := hpre j hj _ (List.getElem?_eq_getElem (by omega))
  simpa using this
 unfold findZ
 rw [this]
theorem findI_end {name : List UInt8} {fs : List Fil} (hpre : ∀ j, j < fs.length → ∀ x, fs[j]? = some x → x.name ≠ name) : findZ name fs = -1 := by
 have : findI name fs = none := by
  unfold findI
  rw [List.findIdx?_eq_none_iff]
  intro x hx
  obtain ⟨j, hj⟩ := List.getElem?_of_mem hx
  have := hpre j (List.getElem?_eq_some_iff.1 hj).1 x hj
  simpa using this
 unfold findZ
 rw [this]
theorem RkM.fil {z br : Nat} {W : World} {s : RSt} {r : Dk} (h : RkM z W br s r) {i : Nat} {m : RFil} (hm : s.ms[i]? = some m) : r.fs[i]? = some m.fil := by
 rw [← h.fs, List.getElem?_map, hm]
 rfl
theorem RkM.len {z br : Nat} {W : World} {s : RSt} {r : Dk} (h : RkM z W br s r) : s.ms.length = r.fs.length := by rw [← h.fs]; simp
theorem rfind_any {z br : Nat} {W : World} {s : RSt} {r : Dk} (h : RkM z W br s r) (name : List UInt8) :
  Calls Tryz.prog 85 #[.pointer (some ⟨br, 0, none⟩), strV name] W fun e w' => e = .returned (.int .i64 (findZ name r.fs)) ∧ w' = W := by
 obtain ⟨A, c, hv, f1, f2, f3⟩ := h.form
 have k1 := h.str.blk.cell (i := 1) rfl
 rw [hv] at k1
 have HH := Lib.hid h
 have HL := Lib.hid h.len
 unfold strV
 obtain ⟨n, hn⟩ : ∃ n, n = s.ms.length := ⟨_, rfl⟩
 rw [← hn] at k1 f1 f3 hv
 have HN := Lib.hid hn
 have HV := Lib.hid hv
 clear h hn hv
 unfold maxLen at f2
 go_enter Tryz.func85, Tryz.ntmps85
 go_wp2_with fail
 go_loopw [5] (fun i wr => ∃ k : Nat, k ≤ n ∧ i = .int .i64 k ∧ (∀ j, j < k → ∀ x, r.fs[j]? = some x → x.name ≠ name) ∧ wr = W) (fun i _ => n - (intOf i).toNat)
 case atStart => exact ⟨0, Nat.zero_le _, rfl, fun j hj => absurd hj (Nat.not_lt_zero _), rfl⟩
 case round =>
  obtain ⟨i, hi, rfl, hpre, rfl⟩ := hrel
  have HPRE := Lib.hid hpre
  clear hpre
  by_cases hlt : i < n
  ·obtain ⟨g, rfl⟩ := f3 (by omega)
   obtain ⟨m, hm⟩ : ∃ m, s.ms[i]? = some m := ⟨_, List.getElem?_eq_getElem (by rw [← HN.out]; exact hlt)⟩
   obtain ⟨c0, -, -⟩ := HH.out.cells HV.out hm
   have HM := Lib.hid hm
   have hfil := HH.out.fil hm
   have HF := Lib.hid hfil
   unfold strV at c0
   clear f3 hm hfil
   by_cases hnn : m.name = name
   ·have hnb : (m.name == name) = true := by simpa using hnn
    have HR := Lib.hid (findI_step HPRE.out HF.out hnn)
    clear hnn
    go_wp2_with fail
    go_ret
    exact ⟨by rw [HR.out]; rfl, rfl⟩
   ·have hnb : (m.name == name) = false := by simpa using hnn
    have HNE := Lib.hid hnn
    clear hnn
    go_wp2_with fail
    go_roundw
    case rel =>
     refine ⟨i + 1, by omega, by simp, fun j hj x hx => ?_, by simp⟩
     rcases Nat.lt_or_ge j i with h1 | h1
     ·exact HPRE.out j h1 x hx
     ·obtain rfl : j = i := by omega
      rw [HF.out] at hx
      injection hx with hx
      rw [← hx]
      exact HNE.out
    case measure => simp [intOf]; omega
  ·have hie : i = n := by omega
   have HR := Lib.hid (findI_end (name := name) (fs := r.fs) (fun j hj => HPRE.out j (by rw [hie, HN.out, HL.out]; exact hj)))
   clear hie
   go_wp2_with fail
   go_ret
   exact ⟨by rw [HR.out]; rfl, rfl⟩
theorem rpower_any {z br : Nat} {W : World} {s : RSt} {r : Dk} (h : RkM z W br s r) :
  Calls Tryz.prog 28 #[.pointer (some ⟨br, 0, none⟩)] W fun e w' => e = .returned (.tuple #[]) ∧ ∃ s', RkS z W w' br s r s' (dPower r) := by
 have t2 := h.str.blk.thaw 2
 have k2 := h.str.blk.cell (i := 2) rfl
 have HP := Lib.hid (h.put (s' := s) (r' := dPower r) 2 (.bool false) rfl rfl rfl rfl h.plan)
 have HK := Lib.hid (Kb.set (rall br s) W br 2 (.bool false) (.inl rfl))
 clear h
 go_enter Tryz.func28, Tryz.ntmps28
 go_wp2_with fail
 go_end0
 exact ⟨rfl, s, HP.out, HK.out, fun _ h => .inl h⟩
theorem rarm_any {z br : Nat} {W : World} {s : RSt} {r : Dk} (h : RkM z W br s r) (n keep : Int) :
  Calls Tryz.prog 63 #[.pointer (some ⟨br, 0, none⟩), .int .i64 n, .int .i64 keep] W (RkPost z W br s r (dArm r n keep)) := by
 have HH := Lib.hid h
 have t5 := h.str.blk.thaw 5
 have k5 := h.str.blk.cell (i := 5) rfl
 have t6 := h.str.blk.thaw 6
 have k6 := h.str.blk.cell (i := 6) rfl
 have t7 := h.str.blk.thaw 7
 have k7 := h.str.blk.cell (i := 7) rfl
 have k2 := h.str.blk.cell (i := 2) rfl
 cases hon : r.on
 ·have hres : dArm r n keep = (r, 150) := by unfold dArm; simp [hon]
  rw [hres]
  rw [hon] at k2
  simp only [Bool.not_false] at k2
  clear h
  go_enter Tryz.func63, Tryz.ntmps63
  go_wp2_with fail
  go_ret
  exact RkPost.same HH.out (Ext.refl _) 150
 ·rw [hon] at k2
  simp only [Bool.not_true] at k2
  by_cases hn : n < 0
  ·have hres : dArm r n keep = (r, 2) := by unfold dArm; simp [hon, hn]
   rw [hres]
   clear h
   go_enter Tryz.func63, Tryz.ntmps63
   go_wp2_with fail
   go_ret
   exact RkPost.same HH.out (Ext.refl _) 2
  ·have hres : dArm r n keep = ({ r with plan := some (n.toNat, keep) }, 0) := by unfold dArm; rw [if_neg (by simp [hon]), if_neg hn]
   rw [hres]
   have hset := h.str.set 5 (.bool true)
   have h1 := (hset.set 6 (.int .i64 n)).set 7 (.int .i64 keep)
   have hk := ((Kb.set (rall br s) W br 5 (.bool true) (.inl rfl)).trans (Kb.set (rall br s) _ br 6 (.int .i64 n) (.inl rfl)) (fun _ h => .inl h)).trans (Kb.set (rall br s) _ br 7 (.int .i64 keep) (.inl rfl)) (fun _ h => .inl h)
   have hkb : Kb (fun k => k = br) W (((W.setCell ⟨br, 5, none⟩ (.bool true)).setCell ⟨br, 6, none⟩ (.int .i64 n)).setCell ⟨br, 7, none⟩ (.int .i64 keep)) :=
    ((Kb.set (fun k => k = br) W br 5 (.bool true) rfl).trans (Kb.set (fun k => k = br) _ br 6 (.int .i64 n) rfl) (fun _ h => .inl h)).trans (Kb.set (fun k => k = br) _ br 7 (.int .i64 keep) rfl) (fun _ h => .inl h)
   have HX := Lib.hid (⟨⟨h.fs, h1, fun a k hp => by injection hp with hp; injection hp with e1 e2; subst e1 e2; exact ⟨by show n = _; omega, rfl⟩, row_kb h.row hkb (fun j hj e => h.ne hj e), fun m hm => (h.bytes m hm).kb hkb (fun j hj e => (h.bytes m hm).ne h.str (by decide) j hj e), h.zd⟩, hk, fun k hk => .inl hk⟩ :
    RkS z W _ br s r { s with n := n, k := keep } { r with plan := some (n.toNat, keep) })
   clear h h1 hk hkb hset hon
   go_enter Tryz.func63, Tryz.ntmps63
   go_wp2_with fail
   go_ret
   exact ⟨_, rfl, HX.out⟩
theorem rnew_bad (room : Int) (W : World) (h : room < 0 ∨ 1073741824 < room) : Calls Tryz.prog 5 #[.int .i64 room] W fun e w' => e = .returned (.pointer none) ∧ w' = W := by
 by_cases h1 : room < 0
 ·go_enter Tryz.func5, Tryz.ntmps5
  go_wp2_with fail
  go_ret
  exact ⟨rfl, rfl⟩
 ·have h2 : 1073741824 < room := h.resolve_left h1
  go_enter Tryz.func5, Tryz.ntmps5
  go_wp2_with fail
  go_ret
  exact ⟨rfl, rfl⟩
theorem rnew_any (room : Nat) (W : World) (h : room ≤ 1073741824) : Calls Tryz.prog 5 #[.int .i64 (room : Int)] W fun e w' => e = .returned (.pointer (some ⟨W.heap.size, 0, none⟩)) ∧ Ext W w' ∧ RkM W.heap.size w' W.heap.size ⟨.slice none 0 0, [], 0, 0⟩ (Dk.fresh room) := by
 have h1 : ¬ ((room : Int) < 0) := by omega
 have h2 : ¬ (1073741824 < (room : Int)) := by omega
 go_enter Tryz.func5, Tryz.ntmps5
 go_wp2_with fail
 go_ret
 refine ⟨rfl, ext_alloc _ _, rfl, BlkT.new W _ _, fun n k hp => (by cases hp), World.ownsRow_nil _ _ _ _, fun m hm => (by cases hm), Nat.le_refl _⟩
end Go.Proofs.YtagghghoimpofaaGreatDoor
