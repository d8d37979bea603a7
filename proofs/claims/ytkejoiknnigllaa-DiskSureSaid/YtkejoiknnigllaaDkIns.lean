/-
  Layer 15: a file comes, a file goes: the map's blocks.
-/
import Derived.Test.YtkejoiknnigllaaDkDo
namespace Go.Proofs.Ytkejoiknnigllaa
open Go Go.RowKit Mono
open Go.Maps (Keyed has size)
set_option linter.unusedVariables false
set_option linter.unusedSimpArgs false
set_option maxRecDepth 100000

def resW {α : Type} (r : Result α) (w : World) : World := match r with
  | .ok _ w' => w'
  | _ => w
theorem turned_kb {W W' : World} {b : Nat} (h : W.mapTurned W' b) : Kb (fun k => k = b) W W' := by
  obtain ⟨es, clock, es', clock', hb, rfl⟩ := h
  refine ⟨rfl, rfl, rfl, by simp [Go.ChangeMaps.setBlock], fun k hk hn => ?_⟩
  have hn' : ¬ b = k := fun e => hn e.symm
  simp [Go.ChangeMaps.setBlock, Array.getElem?_setIfInBounds, hn']
theorem DkM.insert {z bd bm pl : Nat} {W : World} {d : Dk} {ms : List FilM} (h : DkM z W bd bm pl d ms) (hz : z ≤ W.heap.size) {name : List UInt8} (hl : name.length ≤ maxLen) (hno : findM name ms = none) (hfew : ms.length < maxLen) :
    ∃ W2, (Instr.mapUpdate 58 (.map (some bm)) (strV name) (.pointer (some ⟨W.heap.size, 0, none⟩))).run Try.prog (W.alloc (.cells #[.slice none 0 0, .int .i64 0] 72)) = .ok () W2 ∧
      DkS z W W2 bd bm pl d ms pl { d with fs := insF name d.fs } (insM ⟨name, W.heap.size, .slice none 0 0, [], 0⟩ ms) := by
  have hx := ext_alloc W (.cells #[.slice none 0 0, .int .i64 0] 72)
  have h1 := h.ext hx
  have hg := BlkT.new W #[.slice none 0 0, .int .i64 0] 72
  obtain ⟨n, D, ho, hm⟩ := h1.map
  have ht := own_tight ho
  rw [hm.size_] at ht
  obtain ⟨W2, hrun, ho2, htu⟩ := ht.store (e := 67) keyS Try.underlying58 hfew (keyOf_str name hl) (ptrR_mk W.heap.size)
  have hkb := turned_kb htu
  have hno' : ∀ m ∈ ms, m.name ≠ name := fun m hm e => by
    have := List.find?_eq_none.1 hno m hm
    simp [e] at this
  have hlt : ∀ m ∈ ms, m.blk < W.heap.size := fun m hm => (h.files m hm).1.lt
  have hne : ∀ {b : Nat} {T : TypeId} {L : List Value}, BlkT (W.alloc (.cells #[.slice none 0 0, .int .i64 0] 72)) b T L → ¬ b = bm := fun hb => map_ne hb ho
  have hbs : ∀ {v : Value} {b : List UInt8}, BsT z (W.alloc (.cells #[.slice none 0 0, .int .i64 0] 72)) v b → ∀ j, v.ownBlock = some j → ¬ j = bm := by
    rintro v b hb j hj rfl
    obtain ⟨_, C, fz, h2⟩ := hb.typed j hj
    obtain ⟨es, clock, hb', _⟩ := ho
    rw [hb'] at h2
    cases h2
  refine ⟨W2, hrun, ⟨?_, ?_, ?_, ⟨_, _, ho2, ?_⟩, ?_, ?_, ?_, h.zd, h.zm⟩, ?_, ?_⟩
  · rw [insM_fil _ rfl rfl, h.fs]
  · have := h1.str.kb hkb (hne h1.str)
    have e : dstrC { d with fs := insF name d.fs } bm pl = dstrC d bm pl := by
      have : usedF (insF name d.fs) = usedF d.fs := by
        have key : ∀ fs : List Fil, usedF (insF name fs) = usedF fs := by
          intro fs
          induction fs with
          | nil => simp [insF, usedF]
          | cons f r ih =>
            unfold insF
            split
            · simp [usedF]
            · unfold usedF at *
              simp [ih]
        exact key _
      simp only [dstrC, dstrU, Dk.used, this]
    show BlkT W2 bd _ (dstrC _ bm pl)
    rw [e]
    exact this
  · intro a k hp
    obtain ⟨h2, h3⟩ := h1.plan a k hp
    exact ⟨h2.kb hkb (hne h2), h3⟩
  · exact hm.put (ho.tidy keyS) (x := ⟨name, W.heap.size, .slice none 0 0, [], 0⟩) hl hno'
  · intro m hmm
    rcases insM_mem.1 hmm with rfl | hmm
    · exact ⟨hg.kb hkb (hne hg), hz⟩
    · exact ⟨(h1.files m hmm).1.kb hkb (hne (h1.files m hmm).1), (h1.files m hmm).2⟩
  · intro m hmm
    rcases insM_mem.1 hmm with rfl | hmm
    · exact BsT.nil_ z W2
    · exact (h1.bytes m hmm).kb hkb (hbs (h1.bytes m hmm))
  · exact insM_blk (fun m hm e => by have := hlt m hm; rw [e] at this; exact Nat.lt_irrefl _ this) h1.blks
  · exact (Kb.of_ext (fp := dall bd bm pl d ms) hx).trans (hkb.mono (fp' := dall bd bm pl d ms) (fun b hb => by rw [hb]; exact .inl (.inr (.inl rfl)))) (fun _ h => .inl h)
  · rintro k ((rfl | rfl | ⟨hp, rfl⟩ | ⟨m, hmm, rfl⟩) | ⟨m, hmm, hj⟩)
    · exact .inl (.inl (.inl rfl))
    · exact .inl (.inl (.inr (.inl rfl)))
    · exact .inl (.inl (.inr (.inr (.inl ⟨hp, rfl⟩))))
    · rcases insM_mem.1 hmm with rfl | hmm
      · exact .inr (Nat.le_refl _)
      · exact .inl (.inl (.inr (.inr (.inr ⟨m, hmm, rfl⟩))))
    · rcases insM_mem.1 hmm with rfl | hmm
      · cases hj
      · exact .inl (.inr ⟨m, hmm, hj⟩)
theorem DkU.delete {u : Int} {z bd bm pl : Nat} {W : World} {d : Dk} {ms : List FilM} (h : DkU u z W bd bm pl d ms) (hp : ms.Pairwise fun a b => a.name ≠ b.name) {m : FilM} (hm : m ∈ ms) (hl : m.name.length ≤ maxLen) (ty : TypeId) :
    ∃ W2, (Builtin.delete_ #[58, 9] ty #[.map (some bm), strV m.name]).run Try.prog W = .ok (.tuple #[]) W2 ∧ Kb (fun k => k = bm) W W2 ∧
      DkU u z W2 bd bm pl { d with fs := d.fs.filter fun f => !(f.name == m.name) } (ms.filter fun x => !(x.name == m.name)) := by
  obtain ⟨n, D, ho, hmp⟩ := h.map
  obtain ⟨W2, hrun, ho2, htu⟩ := ho.drop (e := 67) keyS Try.underlying58 (keyOf_str m.name hl) ty
  have hkb := turned_kb htu
  have hne : ∀ {b : Nat} {T : TypeId} {L : List Value}, BlkT W b T L → ¬ b = bm := fun hb => map_ne hb ho
  refine ⟨W2, hrun, hkb, ⟨?_, ?_, ?_, ⟨_, _, ho2, hmp.drop (ho.tidy keyS) hm hp⟩, ?_, ?_, ?_, h.zd, h.zm⟩⟩
  · rw [← h.fs, List.filter_map]
    rfl
  · exact h.str.kb hkb (hne h.str)
  · intro a k hpl
    exact ⟨(h.plan a k hpl).1.kb hkb (hne (h.plan a k hpl).1), (h.plan a k hpl).2⟩
  · intro x hx
    have hx := (List.mem_filter.1 hx).1
    exact ⟨(h.files x hx).1.kb hkb (hne (h.files x hx).1), (h.files x hx).2⟩
  · intro x hx
    have hx := (List.mem_filter.1 hx).1
    refine (h.bytes x hx).kb hkb fun j hj => ?_
    rintro rfl
    obtain ⟨_, C, fz, h2⟩ := (h.bytes x hx).typed j hj
    obtain ⟨es, clock, hb', _⟩ := ho
    rw [hb'] at h2
    cases h2
  · exact h.blks.filter _
theorem used_filter {name : List UInt8} {l r : List FilM} {m : FilM} (hn : m.name = name) (hp : (l ++ m :: r).Pairwise fun a b => a.name ≠ b.name) : usedF (((l ++ m :: r).map FilM.fil).filter fun f => !(f.name == name)) + m.b.length = usedF ((l ++ m :: r).map FilM.fil) := by
  obtain ⟨h1, h2, h3⟩ := List.pairwise_append.1 hp
  obtain ⟨h4, h5⟩ := List.pairwise_cons.1 h2
  subst hn
  have off : ∀ l : List FilM, (∀ x ∈ l, x.name ≠ m.name) → (l.map FilM.fil).filter (fun f => !(f.name == m.name)) = l.map FilM.fil := by
    intro l hl
    refine List.filter_eq_self.2 fun f hf => ?_
    obtain ⟨x, hx, rfl⟩ := List.mem_map.1 hf
    simpa [FilM.fil] using hl x hx
  rw [List.map_append, List.map_cons, used_split, List.filter_append, List.filter_cons, off l (fun x hx => h3 x hx m List.mem_cons_self), off r (fun x hx e => h4 x hx e.symm)]
  have e : (!(m.fil.name == m.name)) = false := by simp [FilM.fil]
  rw [e]
  simp only [Bool.false_eq_true, if_false]
  show usedF (_ ++ _) + _ = _
  unfold usedF
  simp only [List.map_append, List.sum_append]
  have : m.fil.b.length = m.b.length := rfl
  omega
end Go.Proofs.Ytkejoiknnigllaa
