/-
  Layer 15: a field of a file is written.
-/
import Derived.Test.YtkejoiknnigllaaDkArm
namespace Go.Proofs.Ytkejoiknnigllaa
open Go Go.RowKit Mono
open Go.Maps (Keyed has size)
set_option linter.unusedVariables false
set_option linter.unusedSimpArgs false
set_option maxRecDepth 100000

theorem MapIs.swap {D : DataW Unit} {l r : List FilM} {m m' : FilM} (h : MapIs D (l ++ m :: r)) (hn : m'.name = m.name) (hb : m'.blk = m.blk) : MapIs D (l ++ m' :: r) := by
  refine ⟨fun n => ?_, fun x hx z => ?_, by rw [h.size_]; simp⟩
  · rw [h.has_]
    simp [hn]
  · rcases List.mem_append.1 hx with hx | hx
    · exact h.at_ x (by simp [hx]) z
    · rcases List.mem_cons.1 hx with rfl | hx
      · rw [hn, hb]
        exact h.at_ m (by simp) z
      · exact h.at_ x (by simp [hx]) z
/-- A field of a file is written; the count stays. -/
theorem DkU.fput {u : Int} {z bd bm pl : Nat} {W : World} {d d' : Dk} {l r : List FilM} {m m' : FilM} (h : DkU u z W bd bm pl d (l ++ m :: r)) (i : Nat) (v : Value) (hn : m'.name = m.name) (hb : m'.blk = m.blk)
    (hc : [m.v, Value.int .i64 (m.sure : Int)].set i v = [m'.v, .int .i64 (m'.sure : Int)]) (hbs : BsT z W m'.v m'.b) (hd : dstrU u d' bm pl = dstrU u d bm pl) (hp : d'.plan = d.plan) (hfs : (l ++ m' :: r).map FilM.fil = d'.fs) :
    DkU u z (W.setCell ⟨m.blk, i, none⟩ v) bd bm pl d' (l ++ m' :: r) := by
  have hm := (h.files m (by simp)).1
  have hset := hm.set i v
  rw [hc] at hset
  obtain ⟨n, D, ho, hmap⟩ := h.map
  have hpw := List.pairwise_append.1 h.blks
  have hpr := List.pairwise_cons.1 hpw.2.1
  have hkb := Kb.set (fun k => k = m.blk) W m.blk i v rfl
  have keepB : ∀ {x : Value} {b : List UInt8}, BsT z W x b → BsT z (W.setCell ⟨m.blk, i, none⟩ v) x b := fun hx => hx.kb hkb (fun j hj e => hx.ne hm (by decide) j hj e)
  refine ⟨hfs, ?_, fun a k hpl => ⟨(h.plan a k (hp ▸ hpl)).1.other v ((h.plan a k (hp ▸ hpl)).1.ne hm (by decide)), (h.plan a k (hp ▸ hpl)).2⟩, ⟨n, D, ho.setCell (map_ne hm ho).symm v, hmap.swap hn hb⟩, fun x hx => ?_, fun x hx => ?_, ?_, h.zd, h.zm⟩
  · rw [hd]
    exact h.str.other v (h.str.ne hm (by decide))
  · rcases List.mem_append.1 hx with hx | hx
    · exact ⟨(h.files x (by simp [hx])).1.other v (hpw.2.2 x hx m List.mem_cons_self), (h.files x (by simp [hx])).2⟩
    · rcases List.mem_cons.1 hx with rfl | hx
      · rw [hb]
        exact ⟨hset, (h.files m (by simp)).2⟩
      · exact ⟨(h.files x (by simp [hx])).1.other v (fun e => hpr.1 x hx e.symm), (h.files x (by simp [hx])).2⟩
  · rcases List.mem_append.1 hx with hx | hx
    · exact keepB (h.bytes x (by simp [hx]))
    · rcases List.mem_cons.1 hx with rfl | hx
      · exact keepB hbs
      · exact keepB (h.bytes x (by simp [hx]))
  · refine List.pairwise_append.2 ⟨hpw.1, List.pairwise_cons.2 ⟨fun x hx => by rw [hb]; exact hpr.1 x hx, hpr.2⟩, fun x hx y hy => ?_⟩
    rcases List.mem_cons.1 hy with rfl | hy
    · rw [hb]
      exact hpw.2.2 x hx m List.mem_cons_self
    · exact hpw.2.2 x hx y (List.mem_cons_of_mem _ hy)
end Go.Proofs.Ytkejoiknnigllaa
