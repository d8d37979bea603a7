/-
  Layer 15: a step of the disk: what stands behind a call, what it keeps; files come and go.
-/
import Derived.Test.YtkejoiknnigllaaDkLose
namespace Go.Proofs.Ytkejoiknnigllaa
open Go Go.RowKit Mono
open Go.Maps (Keyed has size)
set_option linter.unusedVariables false
set_option linter.unusedSimpArgs false
set_option maxRecDepth 100000

/-- All blocks of the disk: those that it writes, and its bytes. -/
def dall (bd bm pl : Nat) (d : Dk) (ms : List FilM) (k : Nat) : Prop := dfp bd bm pl d ms k ∨ ∃ m ∈ ms, m.v.ownBlock = some k
/-- A call has turned the disk d into d', and nothing else. -/
structure DkS (z : Nat) (W W' : World) (bd bm pl : Nat) (d : Dk) (ms : List FilM) (pl' : Nat) (d' : Dk) (ms' : List FilM) : Prop where
  dk : DkM z W' bd bm pl' d' ms'
  kb : Kb (dall bd bm pl d ms) W W'
  fp : ∀ k, dall bd bm pl' d' ms' k → dall bd bm pl d ms k ∨ W.heap.size ≤ k
theorem DkS.refl {z bd bm pl : Nat} {W : World} {d : Dk} {ms : List FilM} (h : DkM z W bd bm pl d ms) : DkS z W W bd bm pl d ms pl d ms := ⟨h, Kb.refl _ _, fun _ h => .inl h⟩
theorem DkS.ext {z bd bm pl : Nat} {W W' : World} {d : Dk} {ms : List FilM} (h : DkM z W bd bm pl d ms) (he : Ext W W') : DkS z W W' bd bm pl d ms pl d ms := ⟨h.ext he, Kb.of_ext he, fun _ h => .inl h⟩
theorem DkS.trans {z bd bm pl pl1 pl2 : Nat} {W W1 W2 : World} {d d1 d2 : Dk} {ms ms1 ms2 : List FilM} (h : DkS z W W1 bd bm pl d ms pl1 d1 ms1) (k : DkS z W1 W2 bd bm pl1 d1 ms1 pl2 d2 ms2) : DkS z W W2 bd bm pl d ms pl2 d2 ms2 := by
  refine ⟨k.dk, h.kb.trans k.kb h.fp, fun b hb => ?_⟩
  rcases k.fp b hb with h1 | h1
  · exact h.fp b h1
  · exact .inr (Nat.le_trans h.kb.size h1)
theorem dall_same {bd bm pl : Nat} {d d' : Dk} {ms ms' : List FilM} (hp : d'.plan.isSome = true → d.plan.isSome = true) (h : ∀ m' ∈ ms', ∃ m ∈ ms, m'.blk = m.blk ∧ (∀ j, m'.v.ownBlock = some j → m.v.ownBlock = some j)) : ∀ k, dall bd bm pl d' ms' k → dall bd bm pl d ms k := by
  rintro k ((rfl | rfl | ⟨h1, rfl⟩ | ⟨m', hm', rfl⟩) | ⟨m', hm', hj⟩)
  · exact .inl (.inl rfl)
  · exact .inl (.inr (.inl rfl))
  · exact .inl (.inr (.inr (.inl ⟨hp h1, rfl⟩)))
  · obtain ⟨m, hm, e1, e2⟩ := h m' hm'
    exact .inl (.inr (.inr (.inr ⟨m, hm, e1⟩)))
  · obtain ⟨m, hm, e1, e2⟩ := h m' hm'
    exact .inr ⟨m, hm, e2 k hj⟩
/-- The power fails. -/
theorem DkS.of_lose {z bd bm pl : Nat} {W W' : World} {d : Dk} {ms : List FilM} {keep : Int} (hD : DkM z W' bd bm pl (d.lose keep) (ms.map (FilM.lose keep))) (hk : Kb (dfp bd bm pl d ms) W W') (h : DkM z W bd bm pl d ms) : DkS z W W' bd bm pl d ms pl (d.lose keep) (ms.map (FilM.lose keep)) := by
  refine ⟨hD, hk.mono fun b hb => .inl hb, fun k hkk => .inl (dall_same (fun h => by cases h) (fun m' hm' => ?_) k hkk)⟩
  obtain ⟨m, hm, rfl⟩ := List.mem_map.1 hm'
  refine ⟨m, hm, rfl, fun j hj => ?_⟩
  obtain ⟨A, c, hv, _⟩ := (h.bytes m hm).bs.open_
  have hj' : (cutV m.v (keepN keep m.fil)).ownBlock = some j := hj
  rw [hv] at hj' ⊢
  exact (cutV_own A _ _ _).symm.trans hj'

/-! ### An operation is counted -/
def Dk.tick (d : Dk) : Dk := match d.plan with
  | some (n + 1, k) => { d with plan := some (n, k), ops := d.ops + 1 }
  | _ => { d with ops := d.ops + 1 }
def Dk.dead (d : Dk) : Option Int := match d.plan with
  | some (0, k) => some k
  | _ => none
theorem Dk.count_eq (d : Dk) (act : Dk → Dk) : d.count act = match d.dead with
    | some k => (d.lose k, 150)
    | none => (act d.tick, 0) := by
  unfold Dk.count Dk.dead Dk.tick
  rcases d.plan with _ | ⟨_ | n, k⟩ <;> rfl
structure Dk.Small (d : Dk) : Prop where
  cnt : d.ops + d.fails ≤ 1000000000
  plan : ∀ n k, d.plan = some (n, k) → n < 9223372036854775808

/-! ### Files come and go -/
def insM (x : FilM) : List FilM → List FilM
  | [] => [x]
  | m :: r => if Op.bytesLess x.name m.name = true then x :: m :: r else m :: insM x r
theorem insM_mem {x y : FilM} : ∀ {ms : List FilM}, y ∈ insM x ms ↔ y = x ∨ y ∈ ms
  | [] => by simp [insM]
  | m :: r => by
    unfold insM
    split
    · simp
    · simp [insM_mem (ms := r)]
      constructor
      · rintro (h | h | h)
        · exact .inr (.inl h)
        · exact .inl h
        · exact .inr (.inr h)
      · rintro (h | h | h)
        · exact .inr (.inl h)
        · exact .inl h
        · exact .inr (.inr h)
theorem insM_len (x : FilM) : ∀ ms : List FilM, (insM x ms).length = ms.length + 1
  | [] => rfl
  | m :: r => by
    unfold insM
    split
    · rfl
    · simp [insM_len x r]
theorem insM_fil (x : FilM) (hb : x.b = []) (hs : x.sure = 0) : ∀ ms : List FilM, (insM x ms).map FilM.fil = insF x.name (ms.map FilM.fil)
  | [] => by simp [insM, insF, FilM.fil, hb, hs]
  | m :: r => by
    have ih := insM_fil x hb hs r
    unfold insM
    simp only [List.map_cons]
    unfold insF
    have : (FilM.fil m).name = m.name := rfl
    rw [this]
    split
    · simp [FilM.fil, hb, hs]
    · simp [ih]
theorem insM_blk {x : FilM} : ∀ {ms : List FilM}, (∀ m ∈ ms, m.blk ≠ x.blk) → ms.Pairwise (fun a b => a.blk ≠ b.blk) → (insM x ms).Pairwise fun a b => a.blk ≠ b.blk
  | [], _, _ => by simp [insM]
  | m :: r, h, hp => by
    obtain ⟨h1, h2⟩ := List.pairwise_cons.1 hp
    unfold insM
    split
    · exact List.pairwise_cons.2 ⟨fun y hy => (h y hy).symm, hp⟩
    · refine List.pairwise_cons.2 ⟨fun y hy => ?_, insM_blk (fun y hy => h y (List.mem_cons_of_mem _ hy)) h2⟩
      rcases insM_mem.1 hy with rfl | hy
      · exact h m List.mem_cons_self
      · exact h1 y hy
theorem insM_any (x : FilM) (n : List UInt8) : ∀ ms : List FilM, (insM x ms).any (fun m => m.name == n) = ((x.name == n) || ms.any fun m => m.name == n)
  | [] => by simp [insM]
  | m :: r => by
    unfold insM
    split
    · simp
    · simp [insM_any x n r]
      cases m.name == n <;> cases x.name == n <;> rfl
theorem str_key {s : List UInt8} (h : s.length ≤ maxLen) : WideAt.IsKeyLit (.string s) := keyS.key (keyOf_str s h)
theorem MapIs.put {D : DataW Unit} {ms : List FilM} (h : MapIs D ms) (ht : Maps.Tidy D) {x : FilM} (hl : x.name.length ≤ maxLen) (hno : ∀ m ∈ ms, m.name ≠ x.name) : MapIs (D.put (.string x.name) (ptrD x.blk)) (insM x ms) := by
  have him : Maps.IsMap D := by
    obtain ⟨es, e, _⟩ := ht
    exact ⟨es, e⟩
  have hf : has D (.string x.name) = false := by
    rw [h.has_, List.any_eq_false]
    intro m hm
    simpa using hno m hm
  refine ⟨fun n => ?_, fun m hm zz => ?_, ?_⟩
  · rw [insM_any]
    by_cases hn : x.name = n
    · subst hn
      rw [Maps.has_put_same him (str_key hl)]
      simp
    · rw [Maps.has_put_other (fun e => hn (by injection e with e; exact e.symm)), h.has_]
      simp [hn]
  · rcases insM_mem.1 hm with rfl | hm
    · exact Maps.atKey_put_same him (str_key hl) _ _
    · rw [Maps.atKey_put_other (fun e => hno m hm (by injection e))]
      exact h.at_ m hm zz
  · rw [Maps.size_put ht, hf, insM_len, ← h.size_]
    simp
theorem MapIs.drop {D : DataW Unit} {ms : List FilM} (h : MapIs D ms) (ht : Maps.Tidy D) {m : FilM} (hm : m ∈ ms) (hp : ms.Pairwise fun a b => a.name ≠ b.name) : MapIs (D.del (.string m.name)) (ms.filter fun x => !(x.name == m.name)) := by
  have hin : has D (.string m.name) = true := by
    rw [h.has_]
    exact List.any_eq_true.2 ⟨m, hm, by simp⟩
  refine ⟨fun n => ?_, fun x hx zz => ?_, ?_⟩
  · by_cases hn : n = m.name
    · subst hn
      rw [Maps.has_del_same]
      symm
      rw [List.any_eq_false]
      intro x hx
      have := (List.mem_filter.1 hx).2
      simpa using this
    · rw [Maps.has_del_other (fun e => hn (by injection e)), h.has_]
      rw [Bool.eq_iff_iff, List.any_eq_true, List.any_eq_true]
      constructor
      · rintro ⟨x, hx, hxn⟩
        refine ⟨x, List.mem_filter.2 ⟨hx, ?_⟩, hxn⟩
        have : x.name = n := by simpa using hxn
        rw [this]
        simpa using hn
      · rintro ⟨x, hx, hxn⟩
        exact ⟨x, (List.mem_filter.1 hx).1, hxn⟩
  · obtain ⟨hx1, hx2⟩ := List.mem_filter.1 hx
    have hne : x.name ≠ m.name := by simpa using hx2
    rw [Maps.atKey_del_other (fun e => hne (by injection e))]
    exact h.at_ x hx1 zz
  · have h1 := Maps.size_del (k := .string m.name) ht
    rw [hin, h.size_] at h1
    have h2 : ∀ ms : List FilM, m ∈ ms → ms.Pairwise (fun a b => a.name ≠ b.name) → (ms.filter fun x => !(x.name == m.name)).length + 1 = ms.length := by
      intro ms hm hp
      obtain ⟨l, r, rfl⟩ := List.append_of_mem hm
      obtain ⟨h1, h2, h3⟩ := List.pairwise_append.1 hp
      obtain ⟨h4, h5⟩ := List.pairwise_cons.1 h2
      have e1 : l.filter (fun x => !(x.name == m.name)) = l := List.filter_eq_self.2 fun x hx => by simpa using h3 x hx m List.mem_cons_self
      have e2 : r.filter (fun x => !(x.name == m.name)) = r := List.filter_eq_self.2 fun x hx => by simpa using (h4 x hx).symm
      rw [List.filter_append, List.filter_cons, e1, e2]
      simp
      omega
    have := h2 ms hm hp
    simp only [if_true] at h1
    omega
theorem own_tight {W : World} {b n : Nat} {D : DataW Unit} (h : W.ownsMap Try.prog 9 ptrR b n D) : W.ownsMap Try.prog 9 ptrR b (size D) D := by
  obtain ⟨es, clock, hb, F, hs, rfl⟩ := h
  exact ⟨es, clock, hb, F, by simp [size, length_sorted], rfl⟩
end Go.Proofs.Ytkejoiknnigllaa
