/-
  Layer 15: the statement of DiskPlays: the walk.
-/
import Derived.Test.YtkejoiknnigllaaDkLives
import Derived.Test.YtkejoiknnigllaaDkLight
namespace Go.Proofs.Ytkejoiknnigllaa
open Go Go.RowKit Mono
set_option linter.unusedVariables false
set_option linter.unusedSimpArgs false
set_option maxRecDepth 100000
set_option maxHeartbeats 2000000

/-- Both disks, the same, at or behind z. -/
def PairZ (z bd br : Nat) (d : Dk) (W : World) : Prop := Pair z bd br (fun k => z ≤ k) d d W
theorem PairZ.of {z bd br : Nat} {F : Nat → Prop} {d : Dk} {W : World} (h : Pair z bd br F d d W) : PairZ z bd br d W := Pair.mono h (fun k _ _ hz => hz)
theorem PairZ.ext {z bd br : Nat} {d : Dk} {W W' : World} (h : PairZ z bd br d W) (he : Ext W W') : PairZ z bd br d W' := Pair.ext h he
theorem pair_new {W W1 W2 : World} {room : Nat} (h1 : DkM W.heap.size W1 (W.heap.size + 1) W.heap.size 0 (Dk.fresh room) []) (x1 : Ext W W1) (x2 : Ext W1 W2)
    (h2 : RkM W1.heap.size W2 W1.heap.size ⟨.slice none 0 0, [], 0, 0⟩ (Dk.fresh room)) : PairZ W.heap.size (W.heap.size + 1) W1.heap.size (Dk.fresh room) W2 := by
  have hr : RkM W.heap.size W2 W1.heap.size ⟨.slice none 0 0, [], 0, 0⟩ (Dk.fresh room) := ⟨h2.fs, h2.str, h2.plan, World.ownsRow_nil _ _ _ _, by simp, x1.size⟩
  refine ⟨W.heap.size, 0, [], _, h1.ext x2, hr, fun k hk hrk => ?_, fun k hk => (h1.ext x2).lowall k hk, fun k hk => hr.low k hk⟩
  have := h1.lt k hk
  rcases hrk with rfl | hj | ⟨m, hm, hj⟩
  · omega
  · cases hj
  · cases hm
/-- An act on both, a box of the round standing by. -/
theorem do_box {z bd br c : Nat} {wr wb : World} {d : Dk} (h : PairZ z bd br d wr) (hx : Ext wr wb) (hok : d.Ok) (hsm : d.SmallC c) (hc : c ≤ 1000000000) (hz : z ≤ wr.heap.size) (a : Act) (hl : a.name.length ≤ maxLen) (hdl : a.data.length ≤ 20000) {v : Value} (hv : Bs wb v a.data)
    (hvz : ∀ j, v.ownBlock = some j → 0 < a.data.length → j < z) :
    Calls Try.prog 30 #[.pointer (some ⟨bd, 0, none⟩), .pointer (some ⟨br, 0, none⟩), .agg #[.int .i64 a.kind, strV a.name, v, .int .i64 a.n, .int .i64 a.keep]] wb fun e w' => e = .returned (.bool true) ∧ Kb (fun k => z ≤ k ∧ k < wr.heap.size) wb w' ∧ PairZ z bd br (actD d a) w' := by
  have h1 : Pair z bd br (fun k => z ≤ k ∧ k < wr.heap.size) d d wr := Pair.mono h (fun k _ hk hz => ⟨hz, hk⟩)
  refine (do_any (h1.ext hx) hok hsm hc (Nat.le_trans hz hx.size) a hl hdl hv (fun j hj h0 => ⟨Nat.lt_of_lt_of_le (hvz j hj h0) (Nat.le_trans hz hx.size), fun hk => by have := hvz j hj h0; omega⟩)).mono ?_
  rintro e w' ⟨rfl, hk, F', hp, hF⟩
  exact ⟨rfl, hk, PairZ.of hp⟩
/-- The data of an act that came in lies ahead of all that is made. -/
theorem data_low {W : World} {v : Value} {l : List UInt8} (h : Bs W v l) : ∀ j, v.ownBlock = some j → 0 < l.length → j < W.heap.size := by
  intro j hj h0
  obtain ⟨A, c, rfl, _, _, _, h4⟩ := h.open_
  obtain ⟨b, off, rfl, hb, _⟩ := h4 h0
  have : b = j := by simpa [Value.ownBlock] using hj
  omega
theorem actsD_ok {l : List Act} {d : Dk} (h : d.Ok) : (l.foldl actD d).Ok := by
  induction l generalizing d with
  | nil => exact h
  | cons a r ih => exact ih (actD_ok h a)
theorem actsD_small {l : List Act} {c : Nat} {d : Dk} (h : d.SmallC c) (hn : ∀ a ∈ l, a.n < 9223372036854775808) : (l.foldl actD d).SmallC (c + l.length) := by
  induction l generalizing d c with
  | nil => exact h
  | cons a r ih =>
    have := ih (actD_small h a (hn a (by simp))) (fun b hb => hn b (by simp [hb]))
    rw [List.length_cons, show c + (r.length + 1) = c + 1 + r.length by omega]
    exact this
/-- The disk behind acts. -/
def actsP (l : List (Act × Value)) (d : Dk) : Dk := (l.map fun p => p.1).foldl actD d
theorem actsP_ok {l : List (Act × Value)} {d : Dk} (h : d.Ok) : (actsP l d).Ok := actsD_ok h
theorem actsP_small {l : List (Act × Value)} {d : Dk} (h : d.SmallC 0) (hn : ∀ p ∈ l, p.1.n < 9223372036854775808) : (actsP l d).SmallC l.length := by
  have := actsD_small (l := l.map fun p => p.1) h (fun a ha => by
    obtain ⟨p, hp, rfl⟩ := List.mem_map.1 ha
    exact hn p hp)
  rw [List.length_map, Nat.zero_add] at this
  exact this
theorem actsP_step {l : List (Act × Value)} {k : Nat} {p : Act × Value} (h : l[k]? = some p) (d : Dk) : actsP (l.take (k + 1)) d = actD (actsP (l.take k) d) p.1 := by
  unfold actsP
  rw [List.take_add_one, h]
  simp
end Go.Proofs.Ytkejoiknnigllaa
