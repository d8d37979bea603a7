/-
 Layer 16: acts that came in, and which are light.
-/
import Derived.Test.YtagghghoimpofaaGreatDoorRlRetire
import Derived.Test.YtagghghoimpofaaGreatDoorOpen
import Derived.OpenShut
import Derived.Deep.Slices
import Derived.ChangeSame
import Derived.Test.YtagghghoimpofaaGreatDoorRkWalk2
import Derived.Test.YtagghghoimpofaaGreatDoorMonoDet
import Derived.Laws.Closers25b
import Derived.Test.YtagghghoimpofaaGreatDoorWalLives
namespace Go.Proofs.YtagghghoimpofaaGreatDoor
open Go.ChangeShapes Go.WideShapes Go.ChangeAt Go.RowKit Mono
set_option linter.unusedVariables false
set_option linter.unusedSimpArgs false
set_option maxRecDepth 100000

/-- A sum that is asked about up to 10000 alone. -/
def isUpW (lo : Int) : MRel := ⟨fun v _ => ∃ z : Int, v = .int .i64 z ∧ 0 ≤ z ∧ z ≤ 10001 ∧ (z ≤ 10000 → lo ≤ z), fun _ _ _ h _ => h⟩
theorem add_upW (a b lo : Int) (w : World) (ha : 0 ≤ a) (ha2 : a ≤ 10001) (hb : 0 ≤ b) (hb2 : b ≤ 9223372036854775807) (hlo : a ≤ 10000 → lo ≤ a) : Calls Tryz.prog 11 #[.int .i64 a, .int .i64 b, .int .i64 10000] w fun e w' => (∃ z : Int, e = .returned (.int .i64 z) ∧ 0 ≤ z ∧ z ≤ 10001 ∧ (z ≤ 10000 → lo + b ≤ z)) ∧ w = w' := by
 go_enter Tryz.func11, Tryz.ntmps11
 by_cases h1 : 10000 < a
 ·go_wp2_with fail
  go_ret
  exact ⟨⟨_, rfl, by omega, by omega, by omega⟩, rfl⟩
 by_cases h2 : 10000 < b
 ·go_wp2_with fail
  go_ret
  exact ⟨⟨_, rfl, by omega, by omega, by omega⟩, rfl⟩
 by_cases h3 : 10000 - b < a
 ·go_wp2_with fail
  go_ret
  exact ⟨⟨_, rfl, by omega, by omega, by omega⟩, rfl⟩
 ·go_wp2_with fail
  go_ret
  exact ⟨⟨_, rfl, by omega, by omega, by omega⟩, rfl⟩
theorem wRetireF_ok : ∀ (k : Nat) {d : Dk} (h : d.Ok) (l : Lg) (lsn : Int), (wRetireF k d l lsn).1.1.Ok
 | 0, d, h, l, lsn => h
 | k + 1, d, h, l, lsn => by
  rw [wRetireF]
  split
  ·split
   ·split
    ·exact dDrop_ok h _
    ·exact wRetireF_ok k (dDrop_ok h _) _ _
   ·exact h
  ·exact h
theorem wRetireF_small : ∀ (k : Nat) {c : Nat} {d : Dk} (h : d.SmallC c) (l : Lg) (lsn : Int), (wRetireF k d l lsn).1.1.SmallC (c + k)
 | 0, c, d, h, l, lsn => h
 | k + 1, c, d, h, l, lsn => by
  rw [wRetireF]
  split
  ·split
   ·split
    ·exact (h.grow (dDrop_grow _ _)).more (by omega)
    ·exact (wRetireF_small k (h.grow (dDrop_grow _ _)) _ _).more (by omega)
   ·exact h.more (by omega)
  ·exact h.more (by omega)
theorem wRetire_ok {d : Dk} (h : d.Ok) (l : Lg) (lsn : Int) : (wRetire d l lsn).1.1.Ok := by
 unfold wRetire
 split
 ·exact h
 ·exact wRetireF_ok _ h _ _
theorem wRetire_small {c : Nat} {d : Dk} (h : d.SmallC c) (l : Lg) (lsn : Int) : (wRetire d l lsn).1.1.SmallC (c + l.segs.length) := by
 unfold wRetire
 split
 ·exact h.more (by omega)
 ·exact wRetireF_small _ h _ _
/-- An act. -/
structure WAct where
 kind : Int
 name : List UInt8
 data : List UInt8
 n : Int
 keep : Int
/-- The act's cells. -/
def wactC (a : WAct) (v : Value) : List Value := [.int .i64 a.kind, v, strV a.name, .int .i64 a.n, .int .i64 a.keep]
def WI64 (n : Int) : Prop := -9223372036854775808 ≤ n ∧ n ≤ 9223372036854775807
theorem wby_trod {H : Type} {enc : TypeId × Value → H} {w : World} {base : Nat} {held : Bool} {fuel : Nat} {cs : List Value} {x : DataW H × List MemPlace}
  (h : DataW.trod enc Tryz.prog w base (fun _ => true) held fuel 34 cs = some x) : ∃ A n c l, cs = [.slice A n c] ∧ Bs w (.slice A n c) l := by
 rcases open_ints Tryz.underlying34 Tryz.underlying5 (by kernel_rfl) h with ⟨hcs, _⟩ | ⟨x, l, c, zs, hcs, _, hl, hm, hz, _, hcell, hwz⟩
 ·exact ⟨none, 0, 0, [], hcs, Bs.nil_ w⟩
 ·obtain ⟨l', hb⟩ := bs_of_cells hl hm (by simpa using hz) hcell hwz
  exact ⟨_, _, _, l', hcs, hb⟩
/-- What an act that came in is held to. -/
def WActIn (w : World) (a : WAct) (v : Value) : Prop := Bs w v a.data ∧ a.name.length ≤ maxLen ∧ WI64 a.kind ∧ WI64 a.n ∧ WI64 a.keep
theorem wact_trod {H : Type} {enc : TypeId × Value → H} {w : World} {base : Nat} {held : Bool} {fuel : Nat} {cs : List Value} {x : DataW H × List MemPlace}
  (h : DataW.trod enc Tryz.prog w base (fun _ => true) held fuel 36 cs = some x) : ∃ (a : WAct) (v : Value), cs = wactC a v ∧ WActIn w a v := by
 obtain ⟨xs, m, _, _, hl, hlen, hi⟩ := DataW.trod_struct Tryz.underlying36 h
 have hc : Tryz.prog.cellsOf 36 = 5 := by kernel_rfl
 have h1c : Tryz.prog.cellsOf 9 = 1 := by kernel_rfl
 have h2c : Tryz.prog.cellsOf 3 = 1 := by kernel_rfl
 have h3c : Tryz.prog.cellsOf 34 = 1 := by kernel_rfl
 rw [hc] at hl
 match cs, hl with
 | [u0, u1, u2, u3, u4], _ =>
  have k0 : DataW.trod enc Tryz.prog w base (fun _ => true) held m 3 (([u0, u1, u2, u3, u4].drop 0).take (Tryz.prog.cellsOf 3)) = xs[0]? := hi 0 _ rfl
  have k1 : DataW.trod enc Tryz.prog w base (fun _ => true) held m 9 (([u0, u1, u2, u3, u4].drop 2).take (Tryz.prog.cellsOf 9)) = xs[2]? := hi 2 _ rfl
  have k2 : DataW.trod enc Tryz.prog w base (fun _ => true) held m 34 (([u0, u1, u2, u3, u4].drop 1).take (Tryz.prog.cellsOf 34)) = xs[1]? := hi 1 _ rfl
  have k3 : DataW.trod enc Tryz.prog w base (fun _ => true) held m 3 (([u0, u1, u2, u3, u4].drop 3).take (Tryz.prog.cellsOf 3)) = xs[3]? := hi 3 _ rfl
  have k4 : DataW.trod enc Tryz.prog w base (fun _ => true) held m 3 (([u0, u1, u2, u3, u4].drop 4).take (Tryz.prog.cellsOf 3)) = xs[4]? := hi 4 _ rfl
  simp only [h1c, h2c, h3c, List.drop_zero, List.take_succ_cons, List.take_zero, List.drop_succ_cons] at k0 k1 k2 k3 k4
  have hxs : xs.length = 5 := hlen
  rw [List.getElem?_eq_getElem (by omega)] at k0 k1 k2 k3 k4
  obtain ⟨a, ha, _, hwa⟩ := DataW.trod_int Tryz.underlying3 k0
  obtain ⟨b, hb, _, hwb⟩ := DataW.trod_string Tryz.underlying9 k1
  obtain ⟨A, n, c, l, hd, hbs⟩ := wby_trod k2
  obtain ⟨y, hy, _, hwy⟩ := DataW.trod_int Tryz.underlying3 k3
  obtain ⟨z, hz, _, hwz⟩ := DataW.trod_int Tryz.underlying3 k4
  injection ha with ha _
  injection hb with hb _
  injection hd with hd _
  injection hy with hy _
  injection hz with hz _
  subst ha hb hd hy hz
  refine ⟨⟨a, b.data.toList, l, y, z⟩, _, by unfold wactC strV; simp, hbs, ?_, int_of_wf hwa, int_of_wf hwy, int_of_wf hwz⟩
  dsimp only
  rw [Array.length_toList]
  exact hwb
/-- A slice of acts that came in. -/
structure WAs (w : World) (v : Value) (l : List (WAct × Value)) : Prop where
 at_ : ∃ A c, v = .slice A l.length c ∧ l.length ≤ c ∧ c ≤ maxLen ∧ (0 < l.length → ∃ b off, A = some ⟨b, off, none⟩ ∧ b < w.heap.size ∧ ∀ (i : Nat) (p : WAct × Value), l[i]? = some p → ∀ (j : Nat) u, (wactC p.1 p.2)[j]? = some u → w.cell? ⟨b, off + (i * 5 + j), none⟩ = some u)
 in_ : ∀ p ∈ l, WActIn w p.1 p.2
theorem WActIn.ext {w w' : World} {a : WAct} {v : Value} (h : WActIn w a v) (he : Ext w w') : WActIn w' a v := ⟨h.1.ext he, h.2⟩
theorem WAs.ext {w w' : World} {v : Value} {l : List (WAct × Value)} (h : WAs w v l) (he : Ext w w') : WAs w' v l := by
 obtain ⟨A, c, h1, h2, h3, h4⟩ := h.at_
 refine ⟨⟨A, c, h1, h2, h3, fun h0 => ?_⟩, fun p hp => (h.in_ p hp).ext he⟩
 obtain ⟨b, off, e1, e2, e3⟩ := h4 h0
 exact ⟨b, off, e1, Nat.lt_of_lt_of_le e2 he.size, fun i p hp j u hu => (he.cell (p := ⟨b, off + (i * 5 + j), none⟩) e2).trans (e3 i p hp j u hu)⟩
theorem was_trod {H : Type} {enc : TypeId × Value → H} {w : World} {base : Nat} {held : Bool} {fuel : Nat} {cs : List Value} {y : DataW H × List MemPlace}
  (h : DataW.trod enc Tryz.prog w base (fun _ => true) held fuel 22 cs = some y) : ∃ v l, cs = [v] ∧ WAs w v l := by
 rcases Deep.open_slice Tryz.underlying22 h with ⟨hcs, _⟩ | ⟨x, len, cap, m, n, D, Pl, hcs, _, hl, hm, hmm, _, hi⟩
 ·exact ⟨_, [], hcs, ⟨none, 0, rfl, Nat.le_refl _, Nat.zero_le _, fun h => absurd h (by simp)⟩, by simp⟩
 ·refine ⟨.slice (some x) len cap, ?_⟩
  have he : Tryz.prog.cellsOf 36 = 5 := by kernel_rfl
  rw [he] at hi
  have hlm : len ≤ m := by rw [hmm]; split <;> omega
  have each : ∀ i, i < len → ∃ p : WAct × Value, (∀ (j : Nat) u, (wactC p.1 p.2)[j]? = some u → w.cell? (x.add (i * 5 + j)) = some u) ∧ WActIn w p.1 p.2 := by
   intro i hil
   obtain ⟨cs, hc, ht⟩ := hi i (by omega)
   obtain ⟨a, v, rfl, hin⟩ := wact_trod ht
   obtain ⟨_, _, hat⟩ := World.cells?_some hc
   refine ⟨(a, v), fun j u hu => ?_, hin⟩
   have hj : j < 5 := (List.getElem?_eq_some_iff.1 hu).1
   rw [← Go.Deep.add_add]
   have := hat j hj
   rw [this]
   exact hu
  let f : Nat → WAct × Value := fun i => if h : i < len then Classical.choose (each i h) else (⟨0, [], [], 0, 0⟩, undef)
  have hff : ∀ i (h : i < len), f i = Classical.choose (each i h) := fun i h => by simp only [f]; rw [dif_pos h]
  refine ⟨(List.range len).map f, hcs, ⟨some x, cap, by simp, by simpa using hl, hm, fun h0 => ?_⟩, fun g hg => ?_⟩
  ·have hlen : 0 < len := by simpa using h0
   obtain ⟨b, off, spot⟩ := x
   obtain ⟨p0, hp0, _⟩ := each 0 hlen
   have hp0 := hp0 0 _ rfl
   have hspot : spot = none := by simpa [Addr.add] using World.cell?_spot hp0
   subst hspot
   have hb : b < w.heap.size := by
    rcases Nat.lt_or_ge b w.heap.size with h | h
    ·exact h
    ·exfalso
     simp [World.cell?, Addr.add, Array.getElem?_eq_none h] at hp0
   refine ⟨b, off, rfl, hb, fun i p hp j u hu => ?_⟩
   obtain ⟨hil, hpi⟩ := List.getElem?_eq_some_iff.1 hp
   have hil' : i < len := by simpa using hil
   have hfp : f i = p := by simpa using hpi
   have hspec := Classical.choose_spec (each i hil')
   rw [← hff _ hil', hfp] at hspec
   have := hspec.1 j u hu
   rw [add_at] at this
   exact this
  ·obtain ⟨i, hi, rfl⟩ := List.mem_map.1 hg
   have hil' : i < len := by simpa using hi
   have hspec := Classical.choose_spec (each i hil')
   rw [← hff i hil'] at hspec
   exact hspec.2
theorem was_open {H : Type} {enc : TypeId × Value → H} {w : World} {base b0 : Nat} {held : Bool} {r : Reach} {v : Value} {d : DataW H} {ps : List MemPlace}
  (hv : Value.okWide Tryz.prog w r b0 22 v) (h : DataW.Trod enc Tryz.prog w base (fun _ => true) held 22 v d ps) : ∃ l, WAs w v l := by
 obtain ⟨A, len, cap, rfl⟩ := okWide_slice Tryz.underlying22 hv
 obtain ⟨fuel, hf⟩ := h
 obtain ⟨v, l, hc, hw⟩ := was_trod hf
 simp [Value.cells] at hc
 subst hc
 exact ⟨l, hw⟩
theorem index_at5 {w : World} {o : Oper} {f : Operand → Value} {t e : TypeId} {x y : Operand} {b off c n i : Nat} (k : Nat) (hop : o.op = .indexAddr t x y) (ht : Tryz.prog.underlying t = some (.slice e))
  (hx : f x = .slice (some ⟨b, off, none⟩) n c) (hy : f y = .int .i64 (i : Int)) (hi : i < n) (hk : (sizeOf e).run Tryz.prog w = .ok k w) :
  (execOp f o).run Tryz.prog w = .ok (.value (.pointer (some ⟨b, off + i * k, none⟩))) w := by
 have hi' : (i : Int) < (n : Int) := by omega
 have h0 : (0 : Int) ≤ (i : Int) := by omega
 simp [execOp, hop, hx, hy, Instr.indexAt, run_underlying ht, hi', h0, hk, add_at, go_sem]
 intro h
 omega
/-- What acts weigh. -/
def wasum : List (WAct × Value) → Nat
 | [] => 0
 | p :: r => 50 + p.1.data.length + p.1.name.length + wasum r
theorem wasum_append (a b : List (WAct × Value)) : wasum (a ++ b) = wasum a + wasum b := by
 induction a with
 | nil => simp [wasum]
 | cons x a ih => simp only [List.cons_append, wasum, ih]; omega
theorem wasum_take {l : List (WAct × Value)} {k : Nat} {x : WAct × Value} (h : l[k]? = some x) : wasum (l.take (k + 1)) = wasum (l.take k) + (50 + x.1.data.length + x.1.name.length) := by
 rw [List.take_add_one, h, wasum_append]
 rfl
theorem wasum_take_le (l : List (WAct × Value)) (k : Nat) : wasum (l.take k) ≤ wasum l := by
 have := wasum_append (l.take k) (l.drop k)
 rw [List.take_append_drop] at this
 omega
theorem wasum_len (l : List (WAct × Value)) : 50 * l.length ≤ wasum l := by
 induction l with
 | nil => exact Nat.le_refl _
 | cons x r ih => unfold wasum; rw [List.length_cons]; omega
set_option maxHeartbeats 4000000 in
theorem wlight_any (v : Value) (l : List (WAct × Value)) (W : World) (hl : WAs W v l) :
  Calls Tryz.prog 6 #[v] W fun e w' => (∃ q : Bool, e = .returned (.bool q) ∧ (q = true → wasum l ≤ 10000)) ∧ Ext W w' := by
 obtain ⟨A, c, rfl, g1, g2, g4⟩ := hl.at_
 have H4 := Lib.hid g4
 have HIN := Lib.hid hl.in_
 unfold maxLen at g2
 clear g4 hl
 go_enter Tryz.func6, Tryz.ntmps6
 go_wp2_with fail
 go_loopw [3, 4] (fun n i wr => ∃ (k : Nat) (z : Int), k ≤ l.length ∧ i = .int .i64 k ∧ n = .int .i64 z ∧ 0 ≤ z ∧ z ≤ 10001 ∧ (z ≤ 10000 → ((wasum (l.take k) : Nat) : Int) ≤ z) ∧ Ext W wr) (fun _ i _ => l.length - (intOf i).toNat)
 case atStart => exact ⟨0, 0, Nat.zero_le _, rfl, rfl, by omega, by omega, (fun _ => by simp [wasum]), Ext.refl _⟩
 case round =>
  obtain ⟨i, z, hi, rfl, rfl, hz0, hz1, hnl, hx⟩ := hrel
  have HNL := Lib.hid hnl
  clear hnl
  by_cases hlt : i < l.length
  ·by_cases hn : z ≤ 10000
   ·obtain ⟨b, off, rfl, hb, hc⟩ := H4.out (by omega)
    obtain ⟨⟨p, x⟩, hget⟩ : ∃ p, l[i]? = some p := ⟨_, List.getElem?_eq_getElem hlt⟩
    have hin := HIN.out (p, x) (List.mem_of_getElem? hget)
    dsimp only at hin
    have hnm := hin.2.1
    obtain ⟨Ad, cd, hv, d1, d2, _, _⟩ := hin.1.open_
    subst hv
    unfold maxLen at hnm d2
    have c1 : W.cell? ⟨b, off + i * 5 + 1, none⟩ = some (.slice Ad p.data.length cd) := by have := hc i _ hget 1 _ rfl; rwa [← Nat.add_assoc] at this
    have c2 : W.cell? ⟨b, off + i * 5 + 2, none⟩ = some (strV p.name) := by have := hc i _ hget 2 _ rfl; rwa [← Nat.add_assoc] at this
    have C1 := Lib.hid c1
    have C2 := Lib.hid c2
    have HG := Lib.hid (wasum_take hget)
    have HIX := Lib.hid hi
    clear hc hget hin c1 c2
    go_wp2_with fail
    have c1 := C1.out
    have c2 := C2.out
    refine wp_region_mono (by kernel_rfl) (by kernel_rfl) ?_
    refine tele_move rfl (.inl rfl) rfl (isV (.int .i64 z)) (fun ρ w' h => h) ?_
    refine tele_call rfl rfl Tryz.func11 (by kernel_rfl) (isUpW (z + 50)) (fun _ _ _ => rfl) ?_ ?_
    ·rintro ρ w' he ⟨h15, -⟩
     have e15 : ρ 15 = (.int .i64 z) := h15
     simp only [evR, List.map_toArray, List.map_cons, List.map_nil, e15]
     refine (add_upW z 50 (z) _ hz0 hz1 (by omega) (by omega) (fun _ => by omega)).mono ?_
     rintro e w'' ⟨⟨y', rfl, y1, y2, y3⟩, rfl⟩
     exact ⟨_, rfl, Ext.refl _, y', rfl, y1, y2, fun h => by have := y3 h; omega⟩
    refine tele_move rfl (.inl rfl) rfl (isV (.slice (some ⟨b, off, none⟩) l.length c)) (fun ρ w' h => h) ?_
    refine tele_move rfl (.inl rfl) rfl (isV (.int .i64 (i : Int))) (fun ρ w' h => h) ?_
    refine tele_val rfl (.pointer (some ⟨b, off + i * 5, none⟩)) (fun _ _ _ => rfl) ?_ ?_
    ·rintro ρ w' he ⟨h17, h18, -⟩
     have e17 : ρ 17 = (.slice (some ⟨b, off, none⟩) l.length c) := h17
     have e18 : ρ 18 = (.int .i64 (i : Int)) := h18
     exact index_at5 5 rfl Tryz.underlying22 e17 e18 (by omega) (by kernel_rfl)
    refine tele_val rfl (.pointer (some ⟨b, off + i * 5 + 1, none⟩)) (fun _ _ _ => rfl) ?_ ?_
    ·rintro ρ w' he ⟨h19, -⟩
     have e19 : ρ 19 = (.pointer (some ⟨b, off + i * 5, none⟩)) := h19
     simp [execOp, evR, e19, go_sem]
    refine tele_val rfl (.slice Ad p.data.length cd) (fun _ _ _ => rfl) ?_ ?_
    ·rintro ρ w' he ⟨h20, -⟩
     have e20 : ρ 20 = (.pointer (some ⟨b, off + i * 5 + 1, none⟩)) := h20
     have c := (hx.trans he).cell (p := ⟨b, off + i * 5 + 1, none⟩) hb |>.trans c1
     simp [execOp, evR, e20, c, go_sem]
    refine tele_val rfl (.int .i64 ((p.data.length : Nat) : Int)) (fun _ _ _ => rfl) ?_ ?_
    ·rintro ρ w' he ⟨h21, -⟩
     have e21 : ρ 21 = (.slice Ad p.data.length cd) := h21
     simp [execOp, evR, e21, go_sem]
    refine tele_call rfl rfl Tryz.func11 (by kernel_rfl) (isUpW (z + 50 + ((p.data.length : Nat) : Int))) (fun _ _ _ => rfl) ?_ ?_
    ·rintro ρ w' he ⟨h16, h22, -⟩
     have e16 : (isUpW (z + 50)).rel (ρ 16) w' := h16
     have e22 : ρ 22 = (.int .i64 ((p.data.length : Nat) : Int)) := h22
     simp only [evR, List.map_toArray, List.map_cons, List.map_nil, e22]
     obtain ⟨y, q, z0, z1, zl⟩ := e16
     simp only [q]
     refine (add_upW y ((p.data.length : Nat) : Int) (z + 50) _ z0 z1 (by omega) (by omega) zl).mono ?_
     rintro e w'' ⟨⟨y', rfl, y1, y2, y3⟩, rfl⟩
     exact ⟨_, rfl, Ext.refl _, y', rfl, y1, y2, fun h => by have := y3 h; omega⟩
    refine tele_move rfl (.inl rfl) rfl (isV (.slice (some ⟨b, off, none⟩) l.length c)) (fun ρ w' h => h) ?_
    refine tele_move rfl (.inl rfl) rfl (isV (.int .i64 (i : Int))) (fun ρ w' h => h) ?_
    refine tele_val rfl (.pointer (some ⟨b, off + i * 5, none⟩)) (fun _ _ _ => rfl) ?_ ?_
    ·rintro ρ w' he ⟨h24, h25, -⟩
     have e24 : ρ 24 = (.slice (some ⟨b, off, none⟩) l.length c) := h24
     have e25 : ρ 25 = (.int .i64 (i : Int)) := h25
     exact index_at5 5 rfl Tryz.underlying22 e24 e25 (by omega) (by kernel_rfl)
    refine tele_val rfl (.pointer (some ⟨b, off + i * 5 + 2, none⟩)) (fun _ _ _ => rfl) ?_ ?_
    ·rintro ρ w' he ⟨h26, -⟩
     have e26 : ρ 26 = (.pointer (some ⟨b, off + i * 5, none⟩)) := h26
     simp [execOp, evR, e26, go_sem]
    refine tele_val rfl (strV p.name) (fun _ _ _ => rfl) ?_ ?_
    ·rintro ρ w' he ⟨h27, -⟩
     have e27 : ρ 27 = (.pointer (some ⟨b, off + i * 5 + 2, none⟩)) := h27
     have c := (hx.trans he).cell (p := ⟨b, off + i * 5 + 2, none⟩) hb |>.trans c2
     simp [execOp, evR, e27, c, go_sem]
    refine tele_val rfl (.int .i64 ((p.name.length : Nat) : Int)) (fun _ _ _ => rfl) ?_ ?_
    ·rintro ρ w' he ⟨h28, -⟩
     have e28 : ρ 28 = (strV p.name) := h28
     have hsz := strV_size p.name
     unfold strV at e28
     simp [execOp, evR, e28, go_sem]
    refine tele_call rfl rfl Tryz.func11 (by kernel_rfl) (isUpW (z + 50 + ((p.data.length : Nat) : Int) + ((p.name.length : Nat) : Int))) (fun _ _ _ => rfl) ?_ ?_
    ·rintro ρ w' he ⟨h23, h29, -⟩
     have e23 : (isUpW (z + 50 + ((p.data.length : Nat) : Int))).rel (ρ 23) w' := h23
     have e29 : ρ 29 = (.int .i64 ((p.name.length : Nat) : Int)) := h29
     simp only [evR, List.map_toArray, List.map_cons, List.map_nil, e29]
     obtain ⟨y, q, z0, z1, zl⟩ := e23
     simp only [q]
     refine (add_upW y ((p.name.length : Nat) : Int) (z + 50 + ((p.data.length : Nat) : Int)) _ z0 z1 (by omega) (by omega) zl).mono ?_
     rintro e w'' ⟨⟨y', rfl, y1, y2, y3⟩, rfl⟩
     exact ⟨_, rfl, Ext.refl _, y', rfl, y1, y2, fun h => by have := y3 h; omega⟩
    refine tele_move rfl (.inr rfl) rfl (isUpW (z + 50 + ((p.data.length : Nat) : Int) + ((p.name.length : Nat) : Int))) (fun ρ w' h => h) ?_
    refine tele_nil ?_
    rintro ρ w' hext ⟨f3, f30, f29, f28, f27, f26, f25, f24, f23, f22, f21, f20, f19, f18, f17, f16, f15, -⟩
    replace f3 : (isUpW (z + 50 + ((p.data.length : Nat) : Int) + ((p.name.length : Nat) : Int))).rel (ρ 3) w' := f3
    simp only [puts, Act.put, List.setIfInBounds_toArray, List.set_cons_zero, List.set_cons_succ]
    obtain ⟨y, f3, q0, q1, q2⟩ := (show (isUpW (z + 50 + ((p.data.length : Nat) : Int) + ((p.name.length : Nat) : Int))).rel (ρ 3) w' from f3)
    rw [f3]
    clear f3 f15 f16 f17 f18 f19 f20 f21 f22 f23 f24 f25 f26 f27 f28 f29 f30 c1 c2
    have HQ := Lib.hid q2
    have HXE := Lib.hid (hx.trans hext)
    clear q2 hext
    go_wp2_with fail
    go_roundw
    case rel => exact ⟨i + 1, y, by omega, by simp, rfl, q0, q1, (fun h => by
     have a1 := HNL.out hn
     have b1 := HQ.out h
     rw [HG.out]
     omega), HXE.out⟩
    case measure => simp [intOf]; omega
   ·go_wp2_with fail
    go_ret
    exact ⟨.inl rfl, hx⟩
  ·obtain rfl : i = l.length := by omega
   by_cases hn : z ≤ 10000
   ·go_wp2_with fail
    go_ret
    refine ⟨⟨_, rfl, fun _ => ?_⟩, hx⟩
    have a1 := HNL.out hn
    rw [List.take_length] at a1
    omega
   ·go_wp2_with fail
    go_ret
    exact ⟨.inl rfl, hx⟩
theorem DL.other {z bd bl : Nat} {fp fp2 : Nat → Prop} {d : Dk} {l : Lg} {W W' : World} (h : DL z bd bl fp d l W) (k : Kb fp2 W W') (hn : ∀ j, fp j → ¬ fp2 j) : DL z bd bl fp d l W' := by
 obtain ⟨bm, pl, ms, v, h1, h2, h3⟩ := h
 exact ⟨bm, pl, ms, v, h1.kb k (fun j hj => hn j ((h3 j).2 (.inl (.inl hj)))) (fun m hm j hj => hn j ((h3 j).2 (.inl (.inr ⟨m, hm, hj⟩)))), h2.kb k (fun j hj => hn j ((h3 j).2 (.inr hj))), h3⟩
theorem arm_S {z bd bm pl pl' : Nat} {W w' : World} {d d' : Dk} {ms : List FilM} (hd' : DkM z w' bd bm pl' d' ms) (hk : Kb (fun k => k = bd) W w') (hp : pl' = pl ∧ d' = d ∨ W.heap.size ≤ pl') : DkS z W w' bd bm pl d ms pl' d' ms :=
 ⟨hd', hk.mono (fun b hb => .inl (.inl hb)), fun k hk2 => by
  rcases hp with ⟨rfl, rfl⟩ | hp
  ·exact .inl hk2
  ·rcases hk2 with (h1 | h1 | ⟨_, h1⟩ | h1) | h1
   ·exact .inl (.inl (.inl h1))
   ·exact .inl (.inl (.inr (.inl h1)))
   ·exact .inr (by omega)
   ·exact .inl (.inl (.inr (.inr (.inr h1))))
   ·exact .inl (.inr h1)⟩
theorem power_S {z bd bm pl : Nat} {W w' : World} {d : Dk} {ms : List FilM} (hd' : DkM z w' bd bm pl (dPower d) ms) (hk : Kb (fun k => k = bd) W w') : DkS z W w' bd bm pl d ms pl (dPower d) ms :=
 ⟨hd', hk.mono (fun b hb => .inl (.inl hb)), fun k hk2 => .inl hk2⟩
theorem dFail_small {c : Nat} {d : Dk} (h : d.SmallC c) (keep : Int) : (dFail d keep).1.SmallC (c + 1) := by
 unfold dFail
 split
 ·exact h.more (Nat.le_succ _)
 ·exact ⟨by have := h.cnt; show d.ops + (d.fails + 1) ≤ c + 1; omega, fun n k hp => by cases hp⟩
end Go.Proofs.YtagghghoimpofaaGreatDoor

/-
 Layer 15: both disks side by side: whether they are alike.
-/
namespace Go.Proofs.YtagghghoimpofaaGreatDoor
open Go Go.RowKit Mono
set_option linter.unusedVariables false
set_option linter.unusedSimpArgs false
set_option maxRecDepth 100000

/-- The program's disk d and the document's r, at or behind z; their blocks lie apart, and within F. -/
def Pair (z bd br : Nat) (F : Nat → Prop) (d r : Dk) (W : World) : Prop :=
 ∃ bm pl ms s, DkM z W bd bm pl d ms ∧ RkM z W br s r ∧ (∀ k, dall bd bm pl d ms k → ¬ rall br s k) ∧ (∀ k, dall bd bm pl d ms k → F k) ∧ ∀ k, rall br s k → F k
theorem DkU.lowall {u : Int} {z bd bm pl : Nat} {W : World} {d : Dk} {ms : List FilM} (h : DkU u z W bd bm pl d ms) : ∀ k, dall bd bm pl d ms k → z ≤ k := by
 rintro k (hk | ⟨m, hm, hj⟩)
 ·exact h.low k hk
 ·exact ((h.bytes m hm).typed k hj).1
theorem DkU.kball {u : Int} {z bd bm pl : Nat} {W W' : World} {d : Dk} {ms : List FilM} {fp : Nat → Prop} (h : DkU u z W bd bm pl d ms) (k : Kb fp W W') (hn : ∀ j, dall bd bm pl d ms j → ¬ fp j) : DkU u z W' bd bm pl d ms :=
 h.kb k (fun j hj => hn j (.inl hj)) (fun m hm j hj => hn j (.inr ⟨m, hm, hj⟩))
theorem Pair.mono {z bd br : Nat} {F F' : Nat → Prop} {d r : Dk} {W : World} (h : Pair z bd br F d r W) (hF : ∀ k, F k → k < W.heap.size → z ≤ k → F' k) : Pair z bd br F' d r W := by
 obtain ⟨bm, pl, ms, s, h1, h2, h3, h4, h5⟩ := h
 exact ⟨bm, pl, ms, s, h1, h2, h3, fun k hk => hF k (h4 k hk) (h1.lt k hk) (h1.lowall k hk), fun k hk => hF k (h5 k hk) (h2.lt k hk) (h2.low k hk)⟩
theorem Pair.kb {z bd br : Nat} {F fp : Nat → Prop} {d r : Dk} {W W' : World} (h : Pair z bd br F d r W) (k : Kb fp W W') (hn : ∀ j, F j → ¬ fp j) : Pair z bd br F d r W' := by
 obtain ⟨bm, pl, ms, s, h1, h2, h3, h4, h5⟩ := h
 exact ⟨bm, pl, ms, s, h1.kball k (fun j hj => hn j (h4 j hj)), h2.kb k (fun j hj => hn j (h5 j hj)), h3, h4, h5⟩
theorem Pair.ext {z bd br : Nat} {F : Nat → Prop} {d r : Dk} {W W' : World} (h : Pair z bd br F d r W) (he : Ext W W') : Pair z bd br F d r W' := h.kb (Kb.of_ext (fp := fun _ => False) he) (fun _ _ h => h)
/-- A call of the program's disk. -/
theorem Pair.d {z bd br : Nat} {F : Nat → Prop} {d r : Dk} {W : World} {f : FuncId} {args : Array Value} {x : Dk × Nat} (h : Pair z bd br F d r W) (hF : ∀ k, W.heap.size ≤ k → F k)
  (hc : ∀ bm pl ms, DkM z W bd bm pl d ms → Calls Tryz.prog f args W (DkPost z W bd bm pl d ms x)) :
  Calls Tryz.prog f args W fun e w' => e = .returned (.int .i64 (x.2 : Int)) ∧ Kb F W w' ∧ Pair z bd br F x.1 r w' := by
 obtain ⟨bm, pl, ms, s, h1, h2, h3, h4, h5⟩ := h
 refine (hc bm pl ms h1).mono ?_
 rintro e w' ⟨pl', ms', rfl, hs⟩
 refine ⟨rfl, hs.kb.mono h4, bm, pl', ms', s, hs.dk, h2.kb hs.kb (fun j hj hd => h3 j hd hj), fun k hk hr => ?_, fun k hk => ?_, h5⟩
 ·rcases hs.fp k hk with h6 | h6
  ·exact h3 k h6 hr
  ·have := h2.lt k hr
   omega
 ·rcases hs.fp k hk with h6 | h6
  ·exact h4 k h6
  ·exact hF k h6
/-- A call of the document's disk. -/
theorem Pair.r {z bd br : Nat} {F : Nat → Prop} {d r : Dk} {W : World} {f : FuncId} {args : Array Value} {x : Dk × Nat} (h : Pair z bd br F d r W) (hF : ∀ k, W.heap.size ≤ k → F k)
  (hc : ∀ s, RkM z W br s r → (∀ k, rall br s k → F k) → Calls Tryz.prog f args W (RkPost z W br s r x)) :
  Calls Tryz.prog f args W fun e w' => e = .returned (.int .i64 (x.2 : Int)) ∧ Kb F W w' ∧ Pair z bd br F d x.1 w' := by
 obtain ⟨bm, pl, ms, s, h1, h2, h3, h4, h5⟩ := h
 refine (hc s h2 h5).mono ?_
 rintro e w' ⟨s', rfl, hs⟩
 refine ⟨rfl, hs.kb.mono h5, bm, pl, ms, s', h1.kball hs.kb h3, hs.rk, fun k hk hr => ?_, h4, fun k hk => ?_⟩
 ·rcases hs.fp k hr with h6 | h6
  ·exact h3 k hk h6
  ·have := h1.lt k hk
   omega
 ·rcases hs.fp k hk with h6 | h6
  ·exact h5 k h6
  ·exact hF k h6
end Go.Proofs.YtagghghoimpofaaGreatDoor
/-
 Layer 15: any act on both disks; both disks tell the same.
-/
namespace Go.Proofs.YtagghghoimpofaaGreatDoor
open Go Go.RowKit Mono
set_option linter.unusedVariables false
set_option linter.unusedSimpArgs false
set_option maxRecDepth 100000
set_option maxHeartbeats 4000000

theorem xor_u8 (a b : Int) : ∃ y : UInt8, bits .xor .u8 a b = (y.toNat : Int) := by
 have h1 := bits_lo_u8 .xor a b
 have h2 := bits_hi_u8 .xor a b
 refine ⟨UInt8.ofNat (bits .xor .u8 a b).toNat, ?_⟩
 rw [UInt8.toNat_ofNat']
 omega
theorem OwB.kb {W W' : World} {z : Nat} {v : Value} {l : List UInt8} {fp : Nat → Prop} (h : OwB W z v l) (k : Kb fp W W') (hn : ∀ j, v.ownBlock = some j → ¬ fp j) : OwB W' z v l := row_kb h k hn

theorem OwB.lt2 {W : World} {z : Nat} {v : Value} {l : List UInt8} (h : OwB W z v l) : ∀ k, v.ownBlock = some k → z ≤ k := fun k hk => (World.ownsRow.lt h k hk).1
theorem index_str {w : World} {o : Oper} {f : Operand → Value} {x y : Operand} {b off c n i : Nat} (hop : o.op = .indexAddr 53 x y)
  (hx : f x = .slice (some ⟨b, off, none⟩) n c) (hy : f y = .int .i64 (i : Int)) (hi : i < n) :
  (execOp f o).run Tryz.prog w = .ok (.value (.pointer (some ⟨b, off + i, none⟩))) w := by
 have hi' : (i : Int) < (n : Int) := by omega
 have h0 : (0 : Int) ≤ (i : Int) := by omega
 have hk : (sizeOf 9).run Tryz.prog w = .ok 1 w := by kernel_rfl
 simp [execOp, hop, hx, hy, Instr.indexAt, run_underlying Tryz.underlying53, hi', h0, hk, add_at, go_sem]
 intro h
 omega
/-- Two lists of texts, the very same. -/
theorem texts_any {W : World} {va vb : Value} {l : List (List UInt8)} (ha : Ss W va l) (hb : Ss W vb l) :
  Calls Tryz.prog 56 #[va, vb] W fun e w' => e = .returned (.bool true) ∧ Ext W w' := by
 obtain ⟨A, c, rfl, a1, a2, a3⟩ := ha.at_
 obtain ⟨B, e, rfl, b1, b2, b3⟩ := hb.at_
 unfold maxLen at a2 b2
 have hne : (((l.length : Nat) : Int) != ((l.length : Nat) : Int)) = false := by simp
 go_enter Tryz.func56, Tryz.ntmps56
 go_wp2_with fail
 go_loopw [5] (fun iv wr => ∃ k : Nat, k ≤ l.length ∧ iv = .int .i64 k ∧ Ext W wr) (fun iv _ => l.length - (intOf iv).toNat)
 case atStart => exact ⟨0, Nat.zero_le _, rfl, Ext.refl _⟩
 case round =>
  obtain ⟨k, hk, rfl, hwx⟩ := hrel
  have HWX := Lib.hid hwx
  by_cases hlt : k < l.length
  ·obtain ⟨ba, oa, rfl, hba, hca⟩ := a3 (by omega)
   obtain ⟨bb, ob, rfl, hbb, hcb⟩ := b3 (by omega)
   obtain ⟨s, hs⟩ : ∃ s, l[k]? = some s := ⟨_, List.getElem?_eq_getElem hlt⟩
   have x1 := (hwx.cell (p := ⟨ba, oa + k, none⟩) hba).trans (hca k s hs)
   have x2 := (hwx.cell (p := ⟨bb, ob + k, none⟩) hbb).trans (hcb k s hs)
   have hb1 := Nat.lt_of_lt_of_le hba hwx.size
   have hb2 := Nat.lt_of_lt_of_le hbb hwx.size
   unfold strV at x1 x2
   have hq : (s != s) = false := by simp
   clear a3 b3 hca hcb hs hwx
   go_wp2_with fail
   refine wp_region_turns 0 [(0, 0, false), (0, 0, false), (0, 0, false), (0, 0, false), (0, 0, false), (0, 0, false), (0, 0, false), (0, 0, false), (0, 0, false)] (fun w0 c => w0) (by kernel_rfl) (by kernel_rfl) (by kernel_rfl) (fun _ => rfl) ?_
   intro w0 ws hext hsz hws
   have q0 : ws 0 = w0 := hws 0
   clear hws
   have y1 : w0.cell? ⟨ba, oa + k, none⟩ = _ := (hext.cell (p := ⟨ba, oa + k, none⟩) hb1).trans x1
   have y2 : w0.cell? ⟨bb, ob + k, none⟩ = _ := (hext.cell (p := ⟨bb, ob + k, none⟩) hb2).trans x2
   refine detT_pure rfl (.slice (some ⟨ba, oa, none⟩) l.length c) (fun _ _ => rfl) ?_ ?_
   ·rintro ρ ⟨h0, -⟩ w'
    have e0 : ρ 0 = .slice (some ⟨ba, oa, none⟩) l.length c := h0
    simp [execOp, evR, e0, go_sem]
   refine detT_pure rfl (.int .i64 (k : Int)) (fun _ _ => rfl) ?_ ?_
   ·rintro ρ ⟨h5, -⟩ w'
    have e5 : ρ 5 = .int .i64 (k : Int) := h5
    simp [execOp, evR, e5, go_sem]
   refine detT_pure rfl (.pointer (some ⟨ba, oa + k, none⟩)) (fun _ _ => rfl) ?_ ?_
   ·rintro ρ ⟨h17, h18, -⟩ w'
    have e17 : ρ 17 = .slice (some ⟨ba, oa, none⟩) l.length c := h17
    have e18 : ρ 18 = .int .i64 (k : Int) := h18
    exact index_str rfl e17 e18 (by omega)
   refine detT_read rfl (.string ⟨s.toArray⟩) (fun _ _ => rfl) ?_ ?_
   ·rintro ρ ⟨h19, -⟩ c hc1 hc2
    have e19 : ρ 19 = .pointer (some ⟨ba, oa + k, none⟩) := h19
    have hc : c = 0 := by have h1 : 0 ≤ c := hc1; have h2 : c ≤ 0 := hc2; omega
    rcases hc with rfl
    ·rw [q0]
     simp [execOp, evR, e19, y1, go_sem]
   refine detT_pure rfl (.slice (some ⟨bb, ob, none⟩) l.length e) (fun _ _ => rfl) ?_ ?_
   ·rintro ρ ⟨h1, -⟩ w'
    have e1 : ρ 1 = .slice (some ⟨bb, ob, none⟩) l.length e := h1
    simp [execOp, evR, e1, go_sem]
   refine detT_pure rfl (.int .i64 (k : Int)) (fun _ _ => rfl) ?_ ?_
   ·rintro ρ ⟨h5, -⟩ w'
    have e5 : ρ 5 = .int .i64 (k : Int) := h5
    simp [execOp, evR, e5, go_sem]
   refine detT_pure rfl (.pointer (some ⟨bb, ob + k, none⟩)) (fun _ _ => rfl) ?_ ?_
   ·rintro ρ ⟨h21, h22, -⟩ w'
    have e21 : ρ 21 = .slice (some ⟨bb, ob, none⟩) l.length e := h21
    have e22 : ρ 22 = .int .i64 (k : Int) := h22
    exact index_str rfl e21 e22 (by omega)
   refine detT_read rfl (.string ⟨s.toArray⟩) (fun _ _ => rfl) ?_ ?_
   ·rintro ρ ⟨h23, -⟩ c hc1 hc2
    have e23 : ρ 23 = .pointer (some ⟨bb, ob + k, none⟩) := h23
    have hc : c = 0 := by have h1 : 0 ≤ c := hc1; have h2 : c ≤ 0 := hc2; omega
    rcases hc with rfl
    ·rw [q0]
     simp [execOp, evR, e23, y2, go_sem]
   refine detT_pure rfl (.bool false) (fun _ _ => rfl) ?_ ?_
   ·rintro ρ ⟨h20, h24, -⟩ w'
    have e20 : ρ 20 = .string ⟨s.toArray⟩ := h20
    have e24 : ρ 24 = .string ⟨s.toArray⟩ := h24
    simp [execOp, evR, e20, e24, go_sem]
   simp only [DetT, applyV, Act.put, List.setIfInBounds_toArray, List.set_cons_zero, List.set_cons_succ]
   rw [q0]
   have hx0 := hext
   go_wp2_with fail
   go_roundw
   case rel => exact ⟨k + 1, by omega, by simp, HWX.out.trans hx0⟩
   case measure => simp [intOf]; omega
  ·go_wp2_with fail
   go_ret
   exact ⟨rfl, hwx⟩
end Go.Proofs.YtagghghoimpofaaGreatDoor
/-
 Layer 15: both disks tell the same.
-/
namespace Go.Proofs.YtagghghoimpofaaGreatDoor
open Go Go.RowKit Mono
set_option linter.unusedVariables false
set_option linter.unusedSimpArgs false
set_option maxRecDepth 100000
set_option maxHeartbeats 4000000

def isSs (l : List (List UInt8)) : MRel := ⟨fun v w => Ss w v l, fun _ _ _ h he => h.ext he⟩
theorem Ext.set {W0 W : World} (h : Ext W0 W) {b : Nat} (hb : W0.heap.size ≤ b) (i : Nat) (v : Value) : Ext W0 (W.setCell ⟨b, i, none⟩ v) := Kb.ext h (Kb.set (fun k => k = b) W b i v rfl) (fun k hk => by rw [hk]; exact hb)

theorem same_any {z bd br : Nat} {F : Nat → Prop} {W : World} {d : Dk} (h : Pair z bd br F d d W) (hok : d.Ok) :
  Calls Tryz.prog 19 #[.pointer (some ⟨bd, 0, none⟩), .pointer (some ⟨br, 0, none⟩)] W fun e w' => e = .returned (.bool true) ∧ Ext W w' := by
 obtain ⟨bm, pl, ms, s, hdk, hrk, -⟩ := h
 have HDK := Lib.hid hdk
 have HRK := Lib.hid hrk
 have HBR := Lib.hid hrk.str.blk
 have HOK := Lib.hid hok
 have HNL := Lib.hid (show ∀ s ∈ d.fs.map (fun f => f.name), s.length ≤ maxLen from fun s hs => by
  obtain ⟨f, hf, rfl⟩ := List.mem_map.1 hs
  have := hok.names f hf
  unfold dname at this
  simp only [Bool.and_eq_true, decide_eq_true_eq] at this
  unfold maxLen
  omega)
 have HBL := Lib.hid (show ∀ s, (dRead d s).1.length ≤ 1048576 from fun s => by
  unfold dRead
  split
  ·exact Nat.zero_le _
  ·split
   ·exact Nat.zero_le _
   ·rename_i f hf
    exact hok.len f (findF_mem hf).1)
 clear hdk hrk hok
 go_enter Tryz.func19, Tryz.ntmps19
 go_wp2_with fail
 refine wp_region_mono (by kernel_rfl) (by kernel_rfl) ?_
 refine tele_move rfl (.inl rfl) rfl (isV (.pointer (some ⟨bd, 0, none⟩))) (fun ρ w' h => h) ?_
 refine tele_call rfl rfl Tryz.func14 (by kernel_rfl) (isSs (d.fs.map fun f => f.name)) (fun _ _ _ => rfl) ?_ ?_
 ·rintro ρ w' he ⟨h12, -⟩
  have e12 : ρ 12 = (.pointer (some ⟨bd, 0, none⟩)) := h12
  simp only [evR, List.map_toArray, List.map_cons, List.map_nil, e12]
  refine (names_any (HDK.out.ext he) HOK.out).mono ?_
  rintro e w'' ⟨v, rfl, hs, hx⟩
  exact ⟨v, rfl, hx, hs⟩
 refine tele_move rfl (.inl rfl) rfl (isV (.pointer (some ⟨br, 0, none⟩))) (fun ρ w' h => h) ?_
 refine tele_call rfl rfl Tryz.func57 (by kernel_rfl) (isSs (d.fs.map fun f => f.name)) (fun _ _ _ => rfl) ?_ ?_
 ·rintro ρ w' he ⟨h14, -⟩
  have e14 : ρ 14 = (.pointer (some ⟨br, 0, none⟩)) := h14
  simp only [evR, List.map_toArray, List.map_cons, List.map_nil, e14]
  refine (rnames_any (HRK.out.ext he) HOK.out).mono ?_
  rintro e w'' ⟨v, rfl, hs, hx⟩
  exact ⟨v, rfl, hx, hs⟩
 refine tele_call rfl rfl Tryz.func56 (by kernel_rfl) (isV (.bool true)) (fun _ _ _ => rfl) ?_ ?_
 ·rintro ρ w' he ⟨h13, h15, -⟩
  have e13 : (isSs (d.fs.map fun f => f.name)).rel (ρ 13) w' := h13
  have e15 : (isSs (d.fs.map fun f => f.name)).rel (ρ 15) w' := h15
  simp only [evR, List.map_toArray, List.map_cons, List.map_nil]
  refine (texts_any (show Ss w' (ρ 13) (d.fs.map fun f => f.name) from e13) (show Ss w' (ρ 15) (d.fs.map fun f => f.name) from e15)).mono ?_
  rintro e w'' ⟨rfl, hx⟩
  exact ⟨_, rfl, hx, rfl⟩
 refine tele_val rfl (.bool false) (fun _ _ _ => rfl) ?_ ?_
 ·rintro ρ w' he ⟨h16, -⟩
  have e16 : ρ 16 = (.bool true) := h16
  simp [execOp, evR, e16, go_sem]
 refine tele_move rfl (.inl rfl) rfl (isV (.bool false)) (fun ρ w' h => h) ?_
 refine tele_val rfl ((.pointer (some ⟨bd, 0, none⟩))) (fun ρ w' hk => by obtain ⟨_, hg, -⟩ := hk; have eg : ρ 18 = (.bool false) := hg; simp [wantedR, Region.wanted, asBoolR, eg]) ?_ ?_
 ·rintro ρ w' he ⟨h0, -⟩
  have e0 : ρ 0 = (.pointer (some ⟨bd, 0, none⟩)) := h0
  simp [execOp, evR, e0]
 refine tele_call rfl rfl Tryz.func58 (by kernel_rfl) (isV (.int .i64 (d.used : Int))) (fun ρ w' hk => by obtain ⟨_, hg, -⟩ := hk; have eg : ρ 18 = (.bool false) := hg; simp [wantedR, Region.wanted, asBoolR, eg]) ?_ ?_
 ·rintro ρ w' he ⟨h19, -⟩
  have e19 : ρ 19 = (.pointer (some ⟨bd, 0, none⟩)) := h19
  simp only [evR, List.map_toArray, List.map_cons, List.map_nil, e19]
  refine (used_any (HDK.out.ext he)).mono ?_
  rintro e w'' ⟨rfl, rfl⟩
  exact ⟨_, rfl, Ext.refl _, rfl⟩
 refine tele_val rfl ((.pointer (some ⟨br, 0, none⟩))) (fun ρ w' hk => by obtain ⟨_, hg, -⟩ := hk; have eg : ρ 18 = (.bool false) := hg; simp [wantedR, Region.wanted, asBoolR, eg]) ?_ ?_
 ·rintro ρ w' he ⟨h1, -⟩
  have e1 : ρ 1 = (.pointer (some ⟨br, 0, none⟩)) := h1
  simp [execOp, evR, e1]
 refine tele_call rfl rfl Tryz.func59 (by kernel_rfl) (isV (.int .i64 (d.used : Int))) (fun ρ w' hk => by obtain ⟨_, hg, -⟩ := hk; have eg : ρ 18 = (.bool false) := hg; simp [wantedR, Region.wanted, asBoolR, eg]) ?_ ?_
 ·rintro ρ w' he ⟨h21, -⟩
  have e21 : ρ 21 = (.pointer (some ⟨br, 0, none⟩)) := h21
  simp only [evR, List.map_toArray, List.map_cons, List.map_nil, e21]
  refine (rused_any (HRK.out.ext he) HOK.out).mono ?_
  rintro e w'' ⟨rfl, rfl⟩
  exact ⟨_, rfl, Ext.refl _, rfl⟩
 refine tele_val rfl (.bool false) (fun ρ w' hk => by obtain ⟨_, _, hg, -⟩ := hk; have eg : ρ 18 = (.bool false) := hg; simp [wantedR, Region.wanted, asBoolR, eg]) ?_ ?_
 ·rintro ρ w' he ⟨h20, h22, -⟩
  have e20 : ρ 20 = (.int .i64 (d.used : Int)) := h20
  have e22 : ρ 22 = (.int .i64 (d.used : Int)) := h22
  simp [execOp, evR, e20, e22, go_sem]
 refine tele_val rfl (.bool false) (fun _ _ _ => rfl) ?_ ?_
 ·rintro ρ w' he ⟨h18, h23, -⟩
  have e18 : ρ 18 = (.bool false) := h18
  have e23 : ρ 23 = (.bool false) := h23
  simp [execOp, evR, e18, e23, go_sem]
 refine tele_move rfl (.inl rfl) rfl (isV (.bool false)) (fun ρ w' h => h) ?_
 refine tele_val rfl ((.pointer (some ⟨bd, 0, none⟩))) (fun ρ w' hk => by obtain ⟨_, hg, -⟩ := hk; have eg : ρ 25 = (.bool false) := hg; simp [wantedR, Region.wanted, asBoolR, eg]) ?_ ?_
 ·rintro ρ w' he ⟨h0, -⟩
  have e0 : ρ 0 = (.pointer (some ⟨bd, 0, none⟩)) := h0
  simp [execOp, evR, e0]
 refine tele_call rfl rfl Tryz.func60 (by kernel_rfl) (isV (.int .i64 (d.ops : Int))) (fun ρ w' hk => by obtain ⟨_, hg, -⟩ := hk; have eg : ρ 25 = (.bool false) := hg; simp [wantedR, Region.wanted, asBoolR, eg]) ?_ ?_
 ·rintro ρ w' he ⟨h26, -⟩
  have e26 : ρ 26 = (.pointer (some ⟨bd, 0, none⟩)) := h26
  simp only [evR, List.map_toArray, List.map_cons, List.map_nil, e26]
  refine (ops_any (HDK.out.ext he)).mono ?_
  rintro e w'' ⟨rfl, rfl⟩
  exact ⟨_, rfl, Ext.refl _, rfl⟩
 refine tele_val rfl ((.pointer (some ⟨br, 0, none⟩))) (fun ρ w' hk => by obtain ⟨_, hg, -⟩ := hk; have eg : ρ 25 = (.bool false) := hg; simp [wantedR, Region.wanted, asBoolR, eg]) ?_ ?_
 ·rintro ρ w' he ⟨h1, -⟩
  have e1 : ρ 1 = (.pointer (some ⟨br, 0, none⟩)) := h1
  simp [execOp, evR, e1]
 refine tele_val rfl (.pointer (some ⟨br, 0, none⟩)) (fun ρ w' hk => by obtain ⟨_, hg, -⟩ := hk; have eg : ρ 25 = (.bool false) := hg; simp [wantedR, Region.wanted, asBoolR, eg]) ?_ ?_
 ·rintro ρ w' he ⟨h28, -⟩
  have e28 : ρ 28 = (.pointer (some ⟨br, 0, none⟩)) := h28
  simp [execOp, evR, e28, go_sem]
 refine tele_val rfl (.pointer (some ⟨br, 4, none⟩)) (fun ρ w' hk => by obtain ⟨_, hg, -⟩ := hk; have eg : ρ 25 = (.bool false) := hg; simp [wantedR, Region.wanted, asBoolR, eg]) ?_ ?_
 ·rintro ρ w' he ⟨h29, -⟩
  have e29 : ρ 29 = (.pointer (some ⟨br, 0, none⟩)) := h29
  simp [execOp, evR, e29, go_sem]
 refine tele_val rfl (.int .i64 (d.ops : Int)) (fun ρ w' hk => by obtain ⟨_, hg, -⟩ := hk; have eg : ρ 25 = (.bool false) := hg; simp [wantedR, Region.wanted, asBoolR, eg]) ?_ ?_
 ·rintro ρ w' he ⟨h30, -⟩
  have e30 : ρ 30 = (.pointer (some ⟨br, 4, none⟩)) := h30
  have c := (HBR.out.ext he).cell (i := 4) rfl
  simp [execOp, evR, e30, c, go_sem]
 refine tele_val rfl (.bool false) (fun ρ w' hk => by obtain ⟨_, _, hg, -⟩ := hk; have eg : ρ 25 = (.bool false) := hg; simp [wantedR, Region.wanted, asBoolR, eg]) ?_ ?_
 ·rintro ρ w' he ⟨h27, h31, -⟩
  have e27 : ρ 27 = (.int .i64 (d.ops : Int)) := h27
  have e31 : ρ 31 = (.int .i64 (d.ops : Int)) := h31
  simp [execOp, evR, e27, e31, go_sem]
 refine tele_val rfl (.bool false) (fun _ _ _ => rfl) ?_ ?_
 ·rintro ρ w' he ⟨h25, h32, -⟩
  have e25 : ρ 25 = (.bool false) := h25
  have e32 : ρ 32 = (.bool false) := h32
  simp [execOp, evR, e25, e32, go_sem]
 refine tele_move rfl (.inl rfl) rfl (isV (.bool false)) (fun ρ w' h => h) ?_
 refine tele_val rfl ((.pointer (some ⟨bd, 0, none⟩))) (fun ρ w' hk => by obtain ⟨_, hg, -⟩ := hk; have eg : ρ 34 = (.bool false) := hg; simp [wantedR, Region.wanted, asBoolR, eg]) ?_ ?_
 ·rintro ρ w' he ⟨h0, -⟩
  have e0 : ρ 0 = (.pointer (some ⟨bd, 0, none⟩)) := h0
  simp [execOp, evR, e0]
 refine tele_call rfl rfl Tryz.func35 (by kernel_rfl) (isV (.int .i64 (d.fails : Int))) (fun ρ w' hk => by obtain ⟨_, hg, -⟩ := hk; have eg : ρ 34 = (.bool false) := hg; simp [wantedR, Region.wanted, asBoolR, eg]) ?_ ?_
 ·rintro ρ w' he ⟨h35, -⟩
  have e35 : ρ 35 = (.pointer (some ⟨bd, 0, none⟩)) := h35
  simp only [evR, List.map_toArray, List.map_cons, List.map_nil, e35]
  refine (fails_any (HDK.out.ext he)).mono ?_
  rintro e w'' ⟨rfl, rfl⟩
  exact ⟨_, rfl, Ext.refl _, rfl⟩
 refine tele_val rfl ((.pointer (some ⟨br, 0, none⟩))) (fun ρ w' hk => by obtain ⟨_, hg, -⟩ := hk; have eg : ρ 34 = (.bool false) := hg; simp [wantedR, Region.wanted, asBoolR, eg]) ?_ ?_
 ·rintro ρ w' he ⟨h1, -⟩
  have e1 : ρ 1 = (.pointer (some ⟨br, 0, none⟩)) := h1
  simp [execOp, evR, e1]
 refine tele_val rfl (.pointer (some ⟨br, 0, none⟩)) (fun ρ w' hk => by obtain ⟨_, hg, -⟩ := hk; have eg : ρ 34 = (.bool false) := hg; simp [wantedR, Region.wanted, asBoolR, eg]) ?_ ?_
 ·rintro ρ w' he ⟨h37, -⟩
  have e37 : ρ 37 = (.pointer (some ⟨br, 0, none⟩)) := h37
  simp [execOp, evR, e37, go_sem]
 refine tele_val rfl (.pointer (some ⟨br, 3, none⟩)) (fun ρ w' hk => by obtain ⟨_, hg, -⟩ := hk; have eg : ρ 34 = (.bool false) := hg; simp [wantedR, Region.wanted, asBoolR, eg]) ?_ ?_
 ·rintro ρ w' he ⟨h38, -⟩
  have e38 : ρ 38 = (.pointer (some ⟨br, 0, none⟩)) := h38
  simp [execOp, evR, e38, go_sem]
 refine tele_val rfl (.int .i64 (d.fails : Int)) (fun ρ w' hk => by obtain ⟨_, hg, -⟩ := hk; have eg : ρ 34 = (.bool false) := hg; simp [wantedR, Region.wanted, asBoolR, eg]) ?_ ?_
 ·rintro ρ w' he ⟨h39, -⟩
  have e39 : ρ 39 = (.pointer (some ⟨br, 3, none⟩)) := h39
  have c := (HBR.out.ext he).cell (i := 3) rfl
  simp [execOp, evR, e39, c, go_sem]
 refine tele_val rfl (.bool false) (fun ρ w' hk => by obtain ⟨_, _, hg, -⟩ := hk; have eg : ρ 34 = (.bool false) := hg; simp [wantedR, Region.wanted, asBoolR, eg]) ?_ ?_
 ·rintro ρ w' he ⟨h36, h40, -⟩
  have e36 : ρ 36 = (.int .i64 (d.fails : Int)) := h36
  have e40 : ρ 40 = (.int .i64 (d.fails : Int)) := h40
  simp [execOp, evR, e36, e40, go_sem]
 refine tele_val rfl (.bool false) (fun _ _ _ => rfl) ?_ ?_
 ·rintro ρ w' he ⟨h34, h41, -⟩
  have e34 : ρ 34 = (.bool false) := h34
  have e41 : ρ 41 = (.bool false) := h41
  simp [execOp, evR, e34, e41, go_sem]
 refine tele_move rfl (.inl rfl) rfl (isV (.bool false)) (fun ρ w' h => h) ?_
 refine tele_val rfl ((.pointer (some ⟨bd, 0, none⟩))) (fun ρ w' hk => by obtain ⟨_, hg, -⟩ := hk; have eg : ρ 43 = (.bool false) := hg; simp [wantedR, Region.wanted, asBoolR, eg]) ?_ ?_
 ·rintro ρ w' he ⟨h0, -⟩
  have e0 : ρ 0 = (.pointer (some ⟨bd, 0, none⟩)) := h0
  simp [execOp, evR, e0]
 refine tele_call rfl rfl Tryz.func61 (by kernel_rfl) (isV (.bool d.on)) (fun ρ w' hk => by obtain ⟨_, hg, -⟩ := hk; have eg : ρ 43 = (.bool false) := hg; simp [wantedR, Region.wanted, asBoolR, eg]) ?_ ?_
 ·rintro ρ w' he ⟨h44, -⟩
  have e44 : ρ 44 = (.pointer (some ⟨bd, 0, none⟩)) := h44
  simp only [evR, List.map_toArray, List.map_cons, List.map_nil, e44]
  refine (on_any (HDK.out.ext he)).mono ?_
  rintro e w'' ⟨rfl, rfl⟩
  exact ⟨_, rfl, Ext.refl _, rfl⟩
 refine tele_val rfl ((.pointer (some ⟨br, 0, none⟩))) (fun ρ w' hk => by obtain ⟨_, hg, -⟩ := hk; have eg : ρ 43 = (.bool false) := hg; simp [wantedR, Region.wanted, asBoolR, eg]) ?_ ?_
 ·rintro ρ w' he ⟨h1, -⟩
  have e1 : ρ 1 = (.pointer (some ⟨br, 0, none⟩)) := h1
  simp [execOp, evR, e1]
 refine tele_val rfl (.pointer (some ⟨br, 0, none⟩)) (fun ρ w' hk => by obtain ⟨_, hg, -⟩ := hk; have eg : ρ 43 = (.bool false) := hg; simp [wantedR, Region.wanted, asBoolR, eg]) ?_ ?_
 ·rintro ρ w' he ⟨h46, -⟩
  have e46 : ρ 46 = (.pointer (some ⟨br, 0, none⟩)) := h46
  simp [execOp, evR, e46, go_sem]
 refine tele_val rfl (.pointer (some ⟨br, 2, none⟩)) (fun ρ w' hk => by obtain ⟨_, hg, -⟩ := hk; have eg : ρ 43 = (.bool false) := hg; simp [wantedR, Region.wanted, asBoolR, eg]) ?_ ?_
 ·rintro ρ w' he ⟨h47, -⟩
  have e47 : ρ 47 = (.pointer (some ⟨br, 0, none⟩)) := h47
  simp [execOp, evR, e47, go_sem]
 refine tele_val rfl (.bool (!d.on)) (fun ρ w' hk => by obtain ⟨_, hg, -⟩ := hk; have eg : ρ 43 = (.bool false) := hg; simp [wantedR, Region.wanted, asBoolR, eg]) ?_ ?_
 ·rintro ρ w' he ⟨h48, -⟩
  have e48 : ρ 48 = (.pointer (some ⟨br, 2, none⟩)) := h48
  have c := (HBR.out.ext he).cell (i := 2) rfl
  simp [execOp, evR, e48, c, go_sem]
 refine tele_val rfl (.bool false) (fun ρ w' hk => by obtain ⟨_, _, hg, -⟩ := hk; have eg : ρ 43 = (.bool false) := hg; simp [wantedR, Region.wanted, asBoolR, eg]) ?_ ?_
 ·rintro ρ w' he ⟨h45, h49, -⟩
  have e45 : ρ 45 = (.bool d.on) := h45
  have e49 : ρ 49 = (.bool (!d.on)) := h49
  cases hon : d.on
  all_goals
   rw [hon] at e45 e49
   simp [execOp, evR, e45, e49, go_sem]
 refine tele_val rfl (.bool false) (fun _ _ _ => rfl) ?_ ?_
 ·rintro ρ w' he ⟨h43, h50, -⟩
  have e43 : ρ 43 = (.bool false) := h43
  have e50 : ρ 50 = (.bool false) := h50
  simp [execOp, evR, e43, e50, go_sem]
 refine tele_nil ?_
 rintro ρ w' hext ⟨f51, f50, f49, f48, f47, f46, f45, f44, f43, f42, f41, f40, f39, f38, f37, f36, f35, f34, f33, f32, f31, f30, f29, f28, f27, f26, f25, f24, f23, f22, f21, f20, f19, f18, f17, f16, f15, f14, f13, f12, -⟩
 replace f51 : ρ 51 = (.bool false) := f51
 simp only [puts, Act.put, List.setIfInBounds_toArray, List.set_cons_zero, List.set_cons_succ]
 rw [f51]
 have HX1 := Lib.hid hext
 have HRK1 := Lib.hid (HRK.out.ext hext)
 clear hext f12 f13 f14 f15 f16 f17 f18 f19 f20 f21 f22 f23 f24 f25 f26 f27 f28 f29 f30 f31 f32 f33 f34 f35 f36 f37 f38 f39 f40 f41 f42 f43 f44 f45 f46 f47 f48 f49 f50 f51
 go_wp2_with fail
 refine (rnames_any HRK1.out HOK.out).mono ?_
 rintro e w1 ⟨v, rfl, hss, hx1⟩
 obtain ⟨L, hL⟩ : ∃ L, L = d.fs.map fun f => f.name := ⟨_, rfl⟩
 rw [← hL] at hss HNL
 obtain ⟨A, c, rfl, a1, a2, a3⟩ := hss.at_
 have HXW := Lib.hid (HX1.out.trans hx1)
 unfold maxLen at a2
 clear hss hx1 hL
 go_wp2_with fail
 go_loopw [6, 7, 8, 9, 10, 11, 55] (fun _ _ _ _ _ _ iv wr => ∃ k : Nat, k ≤ L.length ∧ iv = .int .i64 k ∧ Ext w1 wr) (fun _ _ _ _ _ _ iv _ => L.length - (intOf iv).toNat)
 case atStart => exact ⟨0, Nat.zero_le _, rfl, Ext.refl _⟩
 case round =>
  obtain ⟨k, hk, rfl, hwx⟩ := hrel
  have HWX := Lib.hid hwx
  by_cases hlt : k < L.length
  ·obtain ⟨ba, oa, rfl, hba, hca⟩ := a3 (by omega)
   obtain ⟨s, hs⟩ : ∃ s, L[k]? = some s := ⟨_, List.getElem?_eq_getElem hlt⟩
   have x1 := (hwx.cell (p := ⟨ba, oa + k, none⟩) hba).trans (hca k s hs)
   have HSL := Lib.hid (HNL.out s (List.mem_of_getElem? hs))
   have HRD := Lib.hid (read_any ((HDK.out.ext HXW.out).ext hwx) HOK.out s HSL.out)
   have hbl := HBL.out s
   unfold strV at x1 HRD
   clear hs hca a3 hwx
   go_wp2_with fail
   refine HRD.out.mono ?_
   rintro e w2 ⟨vb, rfl, hob, hx2⟩
   have HX2 := Lib.hid (HWX.out.trans hx2)
   have HRR := Lib.hid (rread_any ((HRK.out.ext HXW.out).ext (HWX.out.trans hx2)) HOK.out s)
   unfold strV at HRR
   obtain ⟨Ab, cb, rfl, b1, b2, -, -⟩ := hob.bs.open_
   have HOB := Lib.hid hob
   clear hob hx2
   go_wp2_with fail
   refine HRR.out.mono ?_
   rintro e w3 ⟨vc, rfl, hoc, hx3⟩
   have HX3 := Lib.hid (HX2.out.trans hx3)
   have HOB3 := Lib.hid (HOB.out.ext hx3)
   have cv1 := (HOB.out.ext hx3).bs.str (P := Tryz.prog) 34 9 5 Tryz.underlying34 Tryz.underlying5 Tryz.underlying9
   have cv2 := hoc.bs.str (P := Tryz.prog) 34 9 5 Tryz.underlying34 Tryz.underlying5 Tryz.underlying9
   have hq : ((dRead d s).1 != (dRead d s).1) = false := by simp
   have hq2 : ((((dRead d s).2 : Nat) : Int) != (((dRead d s).2 : Nat) : Int)) = false := by simp
   have HBASE := Lib.hid (HWX.out.size)
   obtain ⟨bs, hbs⟩ : ∃ bs, bs = (dRead d s).1 := ⟨_, rfl⟩
   obtain ⟨er, her⟩ : ∃ er : Int, er = (((dRead d s).2 : Nat) : Int) := ⟨_, rfl⟩
   rw [← hbs] at hbl b1 HOB3 cv1 cv2 hq ⊢
   rw [← her] at hq2 ⊢
   unfold maxLen at b2
   clear hoc hx3 hbs her HRD HRR HOB
   go_wp2_with fail
   clear cv1 cv2 hq hq2
   go_loopw [11, 83] (fun _ jv wr2 => ∃ (j : Nat) (cur : List UInt8), j ≤ bs.length ∧ jv = .int .i64 j ∧ cur.length = bs.length ∧ OwB wr2 wr.heap.size (.slice Ab bs.length cb) cur ∧ Ext w1 wr2) (fun _ jv _ => bs.length - (intOf jv).toNat)
   case atStart => exact ⟨0, bs, Nat.zero_le _, rfl, rfl, HOB3.out, HX3.out⟩
   case round =>
    obtain ⟨j, cur, hj, rfl, hcl, how, hex⟩ := hrel
    have HHW := Lib.hid how
    have HEX := Lib.hid hex
    by_cases hjl : j < bs.length
    ·obtain ⟨g, co', hform, -⟩ := OwB.form_ how hcl (by omega)
     injection hform with q1 q2 q3
     subst q1
     clear q2 q3 co'
     obtain ⟨cc, tt⟩ := how.cell j (by omega)
     obtain ⟨x, hx⟩ : ∃ x, x = cur.getD j 0 := ⟨_, rfl⟩
     rw [← hx] at cc
     obtain ⟨y, hy⟩ := xor_u8 (x.toNat : Int) 1
     have HSET := Lib.hid (how.set_ j y)
     have HE2 := Lib.hid (Ext.set hex (b := g) (Nat.le_trans HBASE.out (how.lt2 g rfl)) j (.int .u8 (y.toNat : Int)))
     clear how hex hx
     go_wp2_with fail
     go_roundw
     case rel => exact ⟨j + 1, cur.set j y, by omega, by simp, by simpa using hcl, HSET.out, HE2.out⟩
     case measure => simp [intOf]; omega
    ·clear how hex
     go_wp2_with fail
     go_roundw
     case rel => exact ⟨k + 1, by omega, by simp, HEX.out⟩
     case measure => simp [intOf]; omega
  ·clear hwx
   go_wp2_with fail
   go_ret
   exact ⟨rfl, HXW.out.trans HWX.out⟩
end Go.Proofs.YtagghghoimpofaaGreatDoor

/-
 Layer 16: both logs, over both disks.
-/
namespace Go.Proofs.YtagghghoimpofaaGreatDoor
open Go Go.RowKit Mono
set_option linter.unusedVariables false
set_option linter.unusedSimpArgs false
set_option maxRecDepth 100000

/-- The program's disk and its log, if there is one; their blocks are F. -/
def S1 (W0 W : World) (bd : Nat) (F : Nat → Prop) (d : Dk) (L : Value) : Option Lg → Prop
 | none => L = .pointer none ∧ ∃ bm pl ms, DkM W0.heap.size W bd bm pl d ms ∧ ∀ k, F k ↔ dall bd bm pl d ms k
 | some l => ∃ bl, L = .pointer (some ⟨bl, 0, none⟩) ∧ DL W0.heap.size bd bl F d l W
/-- The document's. -/
def S2 (W0 W : World) (br : Nat) (F : Nat → Prop) (d : Dk) (R : Value) : Option Lg → Prop
 | none => R = .pointer none ∧ ∃ s, RkM W0.heap.size W br s d ∧ ∀ k, F k ↔ rall br s k
 | some l => ∃ bl s v, R = .pointer (some ⟨bl, 0, none⟩) ∧ Rx W0 W br bl s d v l ∧ ∀ k, F k ↔ rfp br bl s v k
section
variable {W0 W W' : World} {bd br : Nat} {F : Nat → Prop} {d : Dk} {L R : Value} {ol : Option Lg}
theorem S1.disk (h : S1 W0 W bd F d L ol) : ∃ bm pl ms, DkM W0.heap.size W bd bm pl d ms ∧ ∀ k, dall bd bm pl d ms k → F k := by
 cases ol with
 | none =>
  obtain ⟨-, bm, pl, ms, h1, h2⟩ := h
  exact ⟨bm, pl, ms, h1, fun k hk => (h2 k).2 hk⟩
 | some l =>
  obtain ⟨bl, -, bm, pl, ms, v, h1, h2, h3⟩ := h
  exact ⟨bm, pl, ms, h1, fun k hk => (h3 k).2 (.inl hk)⟩
theorem S2.disk (h : S2 W0 W br F d R ol) : ∃ s, RkM W0.heap.size W br s d ∧ ∀ k, rall br s k → F k := by
 cases ol with
 | none =>
  obtain ⟨-, s, h1, h2⟩ := h
  exact ⟨s, h1, fun k hk => (h2 k).2 hk⟩
 | some l =>
  obtain ⟨bl, s, v, -, h1, h3⟩ := h
  exact ⟨s, h1.hd, fun k hk => (h3 k).2 (.inl hk)⟩
theorem S1.low (h : S1 W0 W bd F d L ol) : ∀ k, F k → W0.heap.size ≤ k := by
 cases ol with
 | none =>
  obtain ⟨-, bm, pl, ms, h1, h2⟩ := h
  exact fun k hk => h1.lows k ((h2 k).1 hk)
 | some l =>
  obtain ⟨bl, -, h1⟩ := h
  exact h1.low
theorem S2.low (h : S2 W0 W br F d R ol) : ∀ k, F k → W0.heap.size ≤ k := by
 cases ol with
 | none =>
  obtain ⟨-, s, h1, h2⟩ := h
  exact fun k hk => h1.low k ((h2 k).1 hk)
 | some l =>
  obtain ⟨bl, s, v, -, h1, h3⟩ := h
  exact fun k hk => h1.low k ((h3 k).1 hk)
theorem S1.lt (h : S1 W0 W bd F d L ol) : ∀ k, F k → k < W.heap.size := by
 cases ol with
 | none =>
  obtain ⟨-, bm, pl, ms, h1, h2⟩ := h
  exact fun k hk => h1.lt k ((h2 k).1 hk)
 | some l =>
  obtain ⟨bl, -, h1⟩ := h
  exact h1.lt
theorem S2.lt (h : S2 W0 W br F d R ol) : ∀ k, F k → k < W.heap.size := by
 cases ol with
 | none =>
  obtain ⟨-, s, h1, h2⟩ := h
  exact fun k hk => h1.lt k ((h2 k).1 hk)
 | some l =>
  obtain ⟨bl, s, v, -, h1, h3⟩ := h
  exact fun k hk => h1.lt k ((h3 k).1 hk)
theorem S1.kb {fp : Nat → Prop} (h : S1 W0 W bd F d L ol) (k : Kb fp W W') (hn : ∀ j, F j → ¬ fp j) : S1 W0 W' bd F d L ol := by
 cases ol with
 | none =>
  obtain ⟨h0, bm, pl, ms, h1, h2⟩ := h
  exact ⟨h0, bm, pl, ms, h1.kball k (fun j hj => hn j ((h2 j).2 hj)), h2⟩
 | some l =>
  obtain ⟨bl, h0, h1⟩ := h
  exact ⟨bl, h0, h1.other k hn⟩
theorem S2.kb {fp : Nat → Prop} (h : S2 W0 W br F d R ol) (k : Kb fp W W') (hn : ∀ j, F j → ¬ fp j) (hx : Ext W0 W') : S2 W0 W' br F d R ol := by
 cases ol with
 | none =>
  obtain ⟨h0, s, h1, h2⟩ := h
  exact ⟨h0, s, h1.kb k (fun j hj => hn j ((h2 j).2 hj)), h2⟩
 | some l =>
  obtain ⟨bl, s, v, h0, h1, h3⟩ := h
  exact ⟨bl, s, v, h0, h1.other k (fun j hj => hn j ((h3 j).2 hj)) hx, h3⟩
theorem S1.ext (h : S1 W0 W bd F d L ol) (he : Ext W W') : S1 W0 W' bd F d L ol := h.kb (Kb.of_ext (fp := fun _ => False) he) (fun _ _ h => h)
theorem S2.ext (h : S2 W0 W br F d R ol) (hx : Ext W0 W) (he : Ext W W') : S2 W0 W' br F d R ol := h.kb (Kb.of_ext (fp := fun _ => False) he) (fun _ _ h => h) (hx.trans he)
/-- A call of the program's disk. -/
theorem S1.call {f : FuncId} {args : Array Value} {x : Dk × Nat} (h : S1 W0 W bd F d L ol)
  (hc : ∀ bm pl ms, DkM W0.heap.size W bd bm pl d ms → Calls Tryz.prog f args W (DkPost W0.heap.size W bd bm pl d ms x)) :
  Calls Tryz.prog f args W fun e w' => e = .returned (.int .i64 (x.2 : Int)) ∧ ∃ F', S1 W0 w' bd F' x.1 L ol ∧ Cont F W F' w' := by
 cases ol with
 | none =>
  obtain ⟨h0, bm, pl, ms, h1, h2⟩ := h
  refine (hc bm pl ms h1).mono ?_
  rintro e w' ⟨pl', ms', rfl, hs⟩
  exact ⟨rfl, _, ⟨h0, bm, pl', ms', hs.dk, fun _ => Iff.rfl⟩, hs.kb.mono (fun b hb => (h2 b).2 hb), fun k hk => (hs.fp k hk).imp (fun h => (h2 k).2 h) id⟩
 | some l =>
  obtain ⟨bl, h0, bm, pl, ms, v, h1, h2, h3⟩ := h
  refine (hc bm pl ms h1).mono ?_
  rintro e w' ⟨pl', ms', rfl, hs⟩
  obtain ⟨-, -, h4⟩ := DLS.disk h1 h2 h3 hs
  obtain ⟨F', h5, h6⟩ := Cont.of_dls h4
  exact ⟨rfl, F', ⟨bl, h0, h5⟩, h6⟩
/-- A call of the document's disk. -/
theorem S2.steps {s s' : RSt} {d' : Dk} {bl : Nat} {v : Value} {l : Lg} (h1 : Rx W0 W br bl s d v l) (h3 : ∀ k, F k ↔ rfp br bl s v k) (hs : RkS W0.heap.size W W' br s d s' d') : S2 W0 W' br (rfp br bl s' v) d' (.pointer (some ⟨bl, 0, none⟩)) (some l) ∧ Cont F W (rfp br bl s' v) W' := by
 obtain ⟨h4, h5⟩ := h1.disk hs
 exact ⟨⟨bl, s', v, rfl, h4, fun _ => Iff.rfl⟩, h5.kb.mono (fun b hb => (h3 b).2 hb), fun k hk => (h5.sub k hk).imp (fun h => (h3 k).2 h) id⟩
theorem S2.call {f : FuncId} {args : Array Value} {x : Dk × Nat} (h : S2 W0 W br F d R ol)
  (hc : ∀ s, RkM W0.heap.size W br s d → (∀ k, rall br s k → F k) → Calls Tryz.prog f args W (RkPost W0.heap.size W br s d x)) :
  Calls Tryz.prog f args W fun e w' => e = .returned (.int .i64 (x.2 : Int)) ∧ ∃ F', S2 W0 w' br F' x.1 R ol ∧ Cont F W F' w' := by
 cases ol with
 | none =>
  obtain ⟨h0, s, h1, h2⟩ := h
  refine (hc s h1 (fun k hk => (h2 k).2 hk)).mono ?_
  rintro e w' ⟨s', rfl, hs⟩
  exact ⟨rfl, _, ⟨h0, s', hs.rk, fun _ => Iff.rfl⟩, hs.kb.mono (fun b hb => (h2 b).2 hb), fun k hk => (hs.fp k hk).imp (fun h => (h2 k).2 h) id⟩
 | some l =>
  obtain ⟨bl, s, v, rfl, h1, h3⟩ := h
  refine (hc s h1.hd (fun k hk => (h3 k).2 (.inl hk))).mono ?_
  rintro e w' ⟨s', rfl, hs⟩
  obtain ⟨h4, h5⟩ := S2.steps h1 h3 hs
  exact ⟨rfl, _, h4, h5⟩
theorem S2.power (h : S2 W0 W br F d R ol) :
  Calls Tryz.prog 28 #[.pointer (some ⟨br, 0, none⟩)] W fun e w' => e = .returned (.tuple #[]) ∧ ∃ F', S2 W0 w' br F' (dPower d) R ol ∧ Cont F W F' w' := by
 cases ol with
 | none =>
  obtain ⟨h0, s, h1, h2⟩ := h
  refine (rpower_any h1).mono ?_
  rintro e w' ⟨rfl, s', hs⟩
  exact ⟨rfl, _, ⟨h0, s', hs.rk, fun _ => Iff.rfl⟩, hs.kb.mono (fun b hb => (h2 b).2 hb), fun k hk => (hs.fp k hk).imp (fun h => (h2 k).2 h) id⟩
 | some l =>
  obtain ⟨bl, s, v, rfl, h1, h3⟩ := h
  refine (rpower_any h1.hd).mono ?_
  rintro e w' ⟨rfl, s', hs⟩
  obtain ⟨h4, h5⟩ := S2.steps h1 h3 hs
  exact ⟨rfl, _, h4, h5⟩
theorem arm_post {z bm pl : Nat} {ms : List FilM} (h : DkM z W bd bm pl d ms) (n keep : Int) (hz : z ≤ W.heap.size) :
  Calls Tryz.prog 62 #[.pointer (some ⟨bd, 0, none⟩), .int .i64 n, .int .i64 keep] W (DkPost z W bd bm pl d ms (dArm d n keep)) := by
 refine (arm_any h n keep hz).mono ?_
 rintro e w' ⟨pl', rfl, h1, h2, h3⟩
 refine ⟨pl', ms, rfl, ?_⟩
 exact arm_S h1 h2 h3
theorem power_post {z bm pl : Nat} {ms : List FilM} (h : DkM z W bd bm pl d ms) :
  Calls Tryz.prog 27 #[.pointer (some ⟨bd, 0, none⟩)] W (DkPost z W bd bm pl d ms (dPower d, 0)) := by
 refine (power_any h).mono ?_
 rintro e w' ⟨rfl, h1, h2⟩
 exact ⟨pl, ms, rfl, power_S h1 h2⟩
/-- How many operations there were, in memory. -/
def OpsAt (b n : Nat) (w : World) : Prop := w.cell? ⟨b, 4, none⟩ = some (.int .i64 (n : Int))
theorem S1.ops (h : S1 W0 W bd F d L ol) : OpsAt bd d.ops W := by
 obtain ⟨bm, pl, ms, h1, -⟩ := h.disk
 exact h1.str.blk.cell (i := 4) rfl
theorem S2.ops (h : S2 W0 W br F d R ol) : OpsAt br d.ops W := by
 obtain ⟨s, h1, -⟩ := h.disk
 exact h1.str.blk.cell (i := 4) rfl
theorem OpsAt.ne {b n m : Nat} {w : World} (h : OpsAt b n w) (hn : n ≠ m) : ¬ OpsAt b m w := by
 intro h2
 unfold OpsAt at h h2
 rw [h] at h2
 injection h2 with h2
 injection h2 with _ h2
 omega
end
theorem count_ops {d : Dk} {act : Dk → Dk} (ha : ∀ x, (act x).ops = x.ops) (h : (d.count act).2 = 0) : (d.count act).1.ops = d.ops + 1 := by
 unfold Dk.count at h ⊢
 split at h
 ·cases h
 ·exact ha _
 ·exact ha _
theorem dMake_ops {d : Dk} {n : List UInt8} (h : (dMake d n).2 = 0) : (dMake d n).1.ops = d.ops + 1 := by
 unfold dMake at h ⊢
 split at h
 ·cases h
 split at h
 ·cases h
 split at h
 ·cases h
 split at h
 ·cases h
 ·rename_i h1 h2 h3 h4
  rw [if_neg h1, if_neg h2, if_neg h3, if_neg h4]
  exact count_ops (fun _ => rfl) h
theorem dSync_ops {d : Dk} {n : List UInt8} (h : (dSync d n).2 = 0) : (dSync d n).1.ops = d.ops + 1 := by
 unfold dSync at h ⊢
 split at h
 ·cases h
 ·rename_i h1
  rw [if_neg h1]
  cases hf : findF n d.fs with
  | none => rw [hf] at h; cases h
  | some f =>
   rw [hf] at h
   exact count_ops (fun _ => rfl) h
theorem dCut_ops {d : Dk} {n : List UInt8} {k : Int} (h : (dCut d n k).2 = 0) : (dCut d n k).1.ops = d.ops + 1 := by
 unfold dCut at h ⊢
 split at h
 ·cases h
 ·rename_i h1
  rw [if_neg h1]
  cases hf : findF n d.fs with
  | none => rw [hf] at h; cases h
  | some f =>
   rw [hf] at h
   dsimp only at h ⊢
   split at h
   ·cases h
   ·rename_i h2
    rw [if_neg h2]
    exact count_ops (fun _ => rfl) h
theorem wMend_ops {d : Dk} {s : WSeg} {t : Bool} (h : (wMend d s t).2 = 0) : d.ops < (wMend d s t).1.ops := by
 unfold wMend at h ⊢
 split at h
 ·rename_i h1
  rw [if_pos h1]
  split at h
  ·rename_i h2
   exact absurd h h2
  ·rename_i h2
   rw [if_neg h2]
   have a := dCut_ops (show (dCut d (wname s.frm) s.bytes).2 = 0 by omega)
   have b := dSync_ops h
   omega
 ·rename_i h1
  rw [if_neg h1]
  have b := dSync_ops h
  omega
/-- What Open tells where it is refused; where not, it did something. -/
theorem wOpen_form (d : Dk) (size : Int) : ((wOpen d size).l = none → (wOpen d size).r = []) ∧ ((wOpen d size).l ≠ none → d.ops < (wOpen d size).d.ops ∧ (wOpen d size).e = 0) := by
 unfold wOpen
 split
 ·exact ⟨fun _ => rfl, fun h => absurd rfl h⟩
 split
 ·exact ⟨fun _ => rfl, fun h => absurd rfl h⟩
 split
 ·exact ⟨fun _ => rfl, fun h => absurd rfl h⟩
 split
 ·split
  ·exact ⟨fun _ => rfl, fun h => absurd rfl h⟩
  ·rename_i h
   have := dMake_ops (show (dMake d (wname 1)).2 = 0 by omega)
   exact ⟨fun h => (by cases h), fun _ => ⟨by show d.ops < (dMake d (wname 1)).1.ops; omega, rfl⟩⟩
 ·split
  ·exact ⟨fun _ => rfl, fun h => absurd rfl h⟩
  ·rename_i h
   exact ⟨fun h => (by cases h), fun _ => ⟨wMend_ops (by omega), rfl⟩⟩
/-- A call may be made once, from worlds that A tells. -/
def LeO (A : World → Prop) (F : Nat → Prop) (w w' : World) : Prop := w' = w ∨ (A w ∧ Kb F w w')
theorem preLeO (A : World → Prop) (F : Nat → Prop) : Pre (LeO A F) := by
 refine ⟨fun w => .inl rfl, ?_⟩
 rintro a b c (rfl | ⟨h1, h2⟩) (rfl | ⟨h3, h4⟩)
 ·exact .inl rfl
 ·exact .inr ⟨h3, h4⟩
 ·exact .inr ⟨h1, h2⟩
 ·exact .inr ⟨h1, h2.trans h4 (fun _ h => .inl h)⟩
theorem LeO.kb {A : World → Prop} {F : Nat → Prop} {w w' : World} (h : LeO A F w w') : Kb F w w' := by
 rcases h with rfl | ⟨_, h⟩
 ·exact Kb.refl _ _
 ·exact h
/-- Open, called of the program's side. -/
theorem S1.opens {W0 W : World} {bd c0 : Nat} {F : Nat → Prop} {d : Dk} {L : Value} {ol : Option Lg} (h : S1 W0 W bd F d L ol) (hx : Ext W0 W) (hT : TbW W0) (hok : d.Ok) (hsc : d.SmallC c0) (hc0 : c0 + 10 ≤ 1000000000) (size : Int) :
  Calls Tryz.prog 12 #[.pointer (some ⟨bd, 0, none⟩), .int .i64 size] W fun e w' => ∃ L' va, e = .returned (.tuple #[L', va, .int .i64 ((wOpen d size).e : Int)]) ∧ (∃ F', S1 W0 w' bd F' (wOpen d size).d L' (wOpen d size).l ∧ Cont F W F' w') ∧
   ((wOpen d size).l = none → L' = .pointer none ∧ va = .slice none 0 0) ∧ BssO w' W.heap.size va (wOpen d size).r := by
 obtain ⟨bm, pl, ms, h1, h2⟩ := h.disk
 refine (wopen_any h1 hx hT hok hsc hc0 size).mono ?_
 rintro e w' ⟨pl', ms', hq⟩
 have hr := (wOpen_form d size).1
 have he := (wOpen_form d size).2
 cases hl : (wOpen d size).l with
 | none =>
  rw [hl] at hq
  obtain ⟨rfl, hs⟩ := hq
  refine ⟨_, _, rfl, ⟨_, ⟨rfl, bm, pl', ms', hs.dk, fun _ => Iff.rfl⟩, hs.kb.mono h2, fun k hk => (hs.fp k hk).imp (h2 k) id⟩, fun _ => ⟨rfl, rfl⟩, ?_⟩
  rw [hr hl]
  exact ⟨[], World.ownsRow_nil _ _ _ _, trivial⟩
 | some l =>
  rw [hl] at hq
  obtain ⟨bl, va, v, rfl, hc, hk, hb⟩ := hq
  rw [(he (by rw [hl]; simp)).2]
  exact ⟨_, va, rfl, ⟨_, ⟨bl, rfl, hc.dl⟩, hk.kb.mono h2, fun k hk2 => (hk.sub k hk2).imp (h2 k) id⟩, fun h => (by cases h), hb.bsso⟩
theorem S2.opens {W0 W : World} {br c0 : Nat} {F : Nat → Prop} {d : Dk} {R : Value} {ol : Option Lg} (h : S2 W0 W br F d R ol) (hx : Ext W0 W) (hok : d.Ok) (hsc : d.SmallC c0) (hc0 : c0 + 10 ≤ 1000000000) (size : Int) :
  Calls Tryz.prog 17 #[.pointer (some ⟨br, 0, none⟩), .int .i64 size] W fun e w' => ∃ R' va, e = .returned (.tuple #[R', va, .int .i64 ((wOpen d size).e : Int)]) ∧ (∃ F', S2 W0 w' br F' (wOpen d size).d R' (wOpen d size).l ∧ Cont F W F' w') ∧
   ((wOpen d size).l = none → R' = .pointer none ∧ va = .slice none 0 0) ∧ BssO w' W.heap.size va (wOpen d size).r := by
 obtain ⟨s, h1, h2⟩ := h.disk
 refine (rlOpen_any h1 hx hok hsc hc0 size).mono ?_
 rintro e w' ⟨s', hq⟩
 have hr := (wOpen_form d size).1
 have he := (wOpen_form d size).2
 cases hl : (wOpen d size).l with
 | none =>
  rw [hl] at hq
  obtain ⟨rfl, hs⟩ := hq
  refine ⟨_, _, rfl, ⟨_, ⟨rfl, s', hs.rk, fun _ => Iff.rfl⟩, hs.kb.mono h2, fun k hk => (hs.fp k hk).imp (h2 k) id⟩, fun _ => ⟨rfl, rfl⟩, ?_⟩
  rw [hr hl]
  exact ⟨[], World.ownsRow_nil _ _ _ _, trivial⟩
 | some l =>
  rw [hl] at hq
  obtain ⟨bl, va, v, rfl, hc, hk, hb⟩ := hq
  rw [(he (by rw [hl]; simp)).2]
  exact ⟨_, va, rfl, ⟨_, ⟨bl, s', v, rfl, hc, fun _ => Iff.rfl⟩, hk.kb.mono h2, fun k hk2 => (hk.sub k hk2).imp (h2 k) id⟩, fun h => (by cases h), hb.bsso⟩
/-- Both sides, apart. -/
structure WP (W0 W : World) (bd br : Nat) (F1 F2 : Nat → Prop) (d : Dk) (ol : Option Lg) (L : Value) (e : Dk) (oe : Option Lg) (R : Value) : Prop where
 s1 : S1 W0 W bd F1 d L ol
 s2 : S2 W0 W br F2 e R oe
 ap : ∀ k, F1 k → ¬ F2 k
 hx : Ext W0 W
section
variable {W0 W w : World} {bd br : Nat} {F1 F2 F1' F2' : Nat → Prop} {d d' e e' : Dk} {ol ol' oe oe' : Option Lg} {L L' R R' : Value}
theorem WP.ext (h : WP W0 W bd br F1 F2 d ol L e oe R) (k : Ext W w) : WP W0 w bd br F1 F2 d ol L e oe R := ⟨h.s1.ext k, h.s2.ext h.hx k, h.ap, h.hx.trans k⟩
theorem WP.one (h : WP W0 W bd br F1 F2 d ol L e oe R) (s : S1 W0 w bd F1' d' L' ol') (c : Cont F1 W F1' w) : WP W0 w bd br F1' F2 d' ol' L' e oe R := by
 have hx := c.low h.hx h.s1.low
 refine ⟨s, h.s2.kb c.kb (fun j hj hq => h.ap j hq hj) hx, fun k hk hq => ?_, hx⟩
 rcases c.sub k hk with h1 | h1
 ·exact h.ap k h1 hq
 ·have := h.s2.lt k hq
  omega
theorem WP.two (h : WP W0 W bd br F1 F2 d ol L e oe R) (s : S2 W0 w br F2' e' R' oe') (c : Cont F2 W F2' w) : WP W0 w bd br F1 F2' d ol L e' oe' R' := by
 have hx := c.low h.hx h.s2.low
 refine ⟨h.s1.kb c.kb (fun j hj hq => h.ap j hj hq), s, fun k hk hq => ?_, hx⟩
 rcases c.sub k hq with h1 | h1
 ·exact h.ap k hk h1
 ·have := h.s1.lt k hk
  omega
/-- What both sides have. -/
def uni (F1 F2 : Nat → Prop) (k : Nat) : Prop := F1 k ∨ F2 k
theorem Cont.uni1 (c : Cont F1 W F1' w) : Cont (uni F1 F2) W (uni F1' F2) w := ⟨c.kb.mono fun _ h => .inl h, fun k hk => hk.elim (fun h => (c.sub k h).imp .inl id) (fun h => .inl (.inr h))⟩
theorem Cont.uni2 (c : Cont F2 W F2' w) : Cont (uni F1 F2) W (uni F1 F2') w := ⟨c.kb.mono fun _ h => .inr h, fun k hk => hk.elim (fun h => .inl (.inl h)) (fun h => (c.sub k h).imp .inr id)⟩
/-- A block of another's is kept. -/
theorem Cont.blk {F F' : Nat → Prop} {b : Nat} {T : TypeId} {C : List Value} (c : Cont F W F' w) (h : BlkT W b T C) (hn : ¬ F b) : BlkT w b T C ∧ ¬ F' b :=
 ⟨h.kb c.kb hn, fun hq => (c.sub b hq).elim hn (fun hs => Nat.not_lt.2 hs h.lt)⟩
theorem WP.pair (h : WP W0 W bd br F1 F2 d ol L e oe R) : Pair W0.heap.size bd br (fun _ => True) d e W := by
 obtain ⟨bm, pl, ms, h1, h2⟩ := h.s1.disk
 obtain ⟨s, h3, h4⟩ := h.s2.disk
 exact ⟨bm, pl, ms, s, h1, h3, fun k hk hq => h.ap k (h2 k hk) (h4 k hq), fun _ _ => trivial, fun _ _ => trivial⟩
end
end Go.Proofs.YtagghghoimpofaaGreatDoor

/-
 Layer 16: both logs are opened, and held against each other.
-/
namespace Go.Proofs.YtagghghoimpofaaGreatDoor
open Go Go.RowKit Mono
set_option linter.unusedVariables false
set_option linter.unusedSimpArgs false
set_option maxRecDepth 100000
set_option maxHeartbeats 4000000

def oRL (A : World → Prop) (S : Value → World → Prop) (o : Option Lg) (v : Value) (w : World) : Prop := (o = none ∧ v = .pointer none) ∨ (o ≠ none ∧ ¬ A w ∧ S v w)
def oRV (A : World → Prop) (S : Value → World → Prop) (o : Option Lg) (v : Value) (w : World) : Prop := (o = none ∧ v = .slice none 0 0) ∨ (o ≠ none ∧ ¬ A w ∧ S v w)
def oRT (A : World → Prop) (S1 S2 : Value → World → Prop) (o : Option Lg) (e : Nat) (v : Value) (w : World) : Prop := ∃ a b, v = .tuple #[a, b, .int .i64 (e : Int)] ∧ oRL A S1 o a w ∧ oRV A S2 o b w
theorem oRL_le {A : World → Prop} {S : Value → World → Prop} {o : Option Lg} {F : Nat → Prop} : ∀ v w w', oRL A S o v w → LeO A F w w' → oRL A S o v w' := by
 rintro v w w' h (rfl | ⟨ha, -⟩)
 ·exact h
 ·rcases h with h | ⟨_, h, _⟩
  ·exact .inl h
  ·exact absurd ha h
theorem oRV_le {A : World → Prop} {S : Value → World → Prop} {o : Option Lg} {F : Nat → Prop} : ∀ v w w', oRV A S o v w → LeO A F w w' → oRV A S o v w' := by
 rintro v w w' h (rfl | ⟨ha, -⟩)
 ·exact h
 ·rcases h with h | ⟨_, h, _⟩
  ·exact .inl h
  ·exact absurd ha h
theorem oRT_le {A : World → Prop} {S1 S2 : Value → World → Prop} {o : Option Lg} {e : Nat} {F : Nat → Prop} : ∀ v w w', oRT A S1 S2 o e v w → LeO A F w w' → oRT A S1 S2 o e v w' := by
 rintro v w w' ⟨a, b, h1, h2, h3⟩ hl
 exact ⟨a, b, h1, oRL_le a w w' h2 hl, oRV_le b w w' h3 hl⟩
theorem data_lowW {W : World} {v : Value} {l : List UInt8} (h : Bs W v l) : ∀ j, v.ownBlock = some j → 0 < l.length → j < W.heap.size := by
 obtain ⟨A, c, rfl, h1, h2, h3, h4⟩ := h.open_
 intro j hj h0
 obtain ⟨g, off, rfl, hg, -⟩ := h4 h0
 obtain rfl : g = j := by simpa [Value.ownBlock] using hj
 exact hg
theorem S1.nil {W0 W : World} {bd : Nat} {F : Nat → Prop} {d : Dk} {L : Value} (h : S1 W0 W bd F d L none) : L = .pointer none := h.1
theorem S2.nil {W0 W : World} {br : Nat} {F : Nat → Prop} {d : Dk} {L : Value} (h : S2 W0 W br F d L none) : L = .pointer none := h.1
theorem S1.ptr {W0 W : World} {bd : Nat} {F : Nat → Prop} {d : Dk} {L : Value} {l : Lg} (h : S1 W0 W bd F d L (some l)) : ∃ bl, L = .pointer (some ⟨bl, 0, none⟩) := by
 obtain ⟨bl, h, -⟩ := h
 exact ⟨bl, h⟩
theorem S2.ptr {W0 W : World} {br : Nat} {F : Nat → Prop} {d : Dk} {L : Value} {l : Lg} (h : S2 W0 W br F d L (some l)) : ∃ bl, L = .pointer (some ⟨bl, 0, none⟩) := by
 obtain ⟨bl, _, _, h, -⟩ := h
 exact ⟨bl, h⟩
theorem BssO.nil_ (w : World) (z : Nat) : BssO w z (.slice none 0 0) [] := ⟨[], World.ownsRow_nil _ _ _ _, trivial⟩
theorem BssO.kbr {w w' : World} {z : Nat} {v : Value} {ls : List (List UInt8)} {fp : Nat → Prop} (h : BssO w z v ls) (k : Kb fp w w') (hn : ∀ j, z ≤ j → j < w.heap.size → ¬ fp j) : BssO w' z v ls := by
 obtain ⟨vs, h1, h2⟩ := h
 refine ⟨vs, row_kept h1 k fun j hj => hn j (World.ownsRow.lt h1 j hj).1 (World.ownsRow.lt h1 j hj).2, h2.imp_mem fun x hx y hy => OwB.kb2 hy k fun j hj => hn j (World.ownsRow.lt hy j hj).1 (World.ownsRow.lt hy j hj).2⟩
theorem bopen_any {W0 W : World} {bb bd br c0 : Nat} {F1 F2 : Nat → Prop} {d : Dk} {ol : Option Lg} {L R L0 R0 : Value} {size : Int} (h : WP W0 W bd br F1 F2 d ol L d ol R) (hT : TbW W0)
  (hb : BlkT W bb 31 [.pointer (some ⟨bd, 0, none⟩), L0, .pointer (some ⟨br, 0, none⟩), R0, .int .i64 size]) (hn : ¬ uni F1 F2 bb) (hlo : W0.heap.size ≤ bb) (hok : d.Ok) (hsc : d.SmallC c0) (hc0 : c0 + 10 ≤ 1000000000) (hL0 : ∃ p, L0 = .pointer p) (hR0 : ∃ p, R0 = .pointer p) :
  Calls Tryz.prog 8 #[.pointer (some ⟨bb, 0, none⟩)] W fun e w' => e = .returned (.bool true) ∧ ∃ F1' F2' L' R', WP W0 w' bd br F1' F2' (wOpen d size).d (wOpen d size).l L' (wOpen d size).d (wOpen d size).l R' ∧
   BlkT w' bb 31 [.pointer (some ⟨bd, 0, none⟩), L', .pointer (some ⟨br, 0, none⟩), R', .int .i64 size] ∧ ¬ uni F1' F2' bb ∧ Cont (fun k => uni F1 F2 k ∨ k = bb) W (fun k => uni F1' F2' k ∨ k = bb) w' := by
 have HP := Lib.hid h
 have HT := Lib.hid hT
 have HB := Lib.hid hb
 have HNB1 := Lib.hid (show ¬ (F1 bb ∨ W.heap.size ≤ bb) from fun hq => hq.elim (fun h => hn (.inl h)) (fun h => Nat.not_lt.2 h hb.lt))
 have HN := Lib.hid hn
 have HLO := Lib.hid hlo
 have HOK := Lib.hid hok
 have HSC := Lib.hid hsc
 have HC0 := Lib.hid hc0
 obtain ⟨p0, rfl⟩ := hL0
 obtain ⟨q0, rfl⟩ := hR0
 have HFM := Lib.hid (wOpen_form d size)
 have hO1 := fun w (h : S1 W0 w bd F1 d L ol) (hx : Ext W0 w) => h.opens hx hT hok hsc hc0 size
 have hO2 := fun w F (h : S2 W0 w br F d R ol) (hx : Ext W0 w) => h.opens hx hok hsc hc0 size
 obtain ⟨x, hx⟩ : ∃ x, x = wOpen d size := ⟨_, rfl⟩
 rw [← hx] at HFM hO1 hO2 ⊢
 have HO1 := Lib.hid hO1
 have HO2 := Lib.hid hO2
 clear hx hO1 hO2 h hT hb hn hlo hok hsc hc0
 go_enter Tryz.func8, Tryz.ntmps8
 go_wp2_with fail
 refine wp_region_tok [false, false, false, false, false, false, false, false, true, false, false, false, false, false, false, false] (LeO (OpsAt bd d.ops) (fun k => F1 k ∨ W.heap.size ≤ k)) (fun c w => if c < 1 then S1 W0 w bd F1 d L ol ∧ Cont F1 W F1 w else ∃ F1' L', S1 W0 w bd F1' x.d L' x.l ∧ Cont F1 W F1' w) 1 (by kernel_rfl) (by kernel_rfl) (by kernel_rfl) (by kernel_rfl) (preLeO _ _) (.inr ⟨HP.out.s1.ops, Kb.of_ext (ext_drew W)⟩) ⟨HP.out.s1.ext (ext_drew W), (Cont.refl fun _ h => h).ext (ext_drew W)⟩ ?_
 refine tok_val rfl (.pointer (some ⟨bb, 0, none⟩)) (fun _ _ _ => rfl) ?_ ?_
 ·rintro ρ w' he ⟨h0, -⟩
  have e0 : ρ 0 = .pointer (some ⟨bb, 0, none⟩) := h0
  simp [execOp, evR, e0, go_sem]
 refine tok_val rfl (.pointer (some ⟨bb, 0, none⟩)) (fun _ _ _ => rfl) ?_ ?_
 ·rintro ρ w' he ⟨h10, -⟩
  have e10 : ρ 10 = .pointer (some ⟨bb, 0, none⟩) := h10
  simp [execOp, evR, e10, go_sem]
 refine tok_val rfl (.pointer (some ⟨bb, 0, none⟩)) (fun _ _ _ => rfl) ?_ ?_
 ·rintro ρ w' he ⟨h11, -⟩
  have e11 : ρ 11 = .pointer (some ⟨bb, 0, none⟩) := h11
  simp [execOp, evR, e11, go_sem]
 refine tok_val rfl (.pointer (some ⟨bd, 0, none⟩)) (fun _ _ _ => rfl) ?_ ?_
 ·rintro ρ w' he ⟨h12, -⟩
  have e12 : ρ 12 = .pointer (some ⟨bb, 0, none⟩) := h12
  have c := (HB.out.kb he.kb HNB1.out).blk.cell (i := 0) rfl
  simp [execOp, evR, e12, c, go_sem]
 refine tok_val rfl (.pointer (some ⟨bb, 0, none⟩)) (fun _ _ _ => rfl) ?_ ?_
 ·rintro ρ w' he ⟨h0, -⟩
  have e0 : ρ 0 = .pointer (some ⟨bb, 0, none⟩) := h0
  simp [execOp, evR, e0, go_sem]
 refine tok_val rfl (.pointer (some ⟨bb, 0, none⟩)) (fun _ _ _ => rfl) ?_ ?_
 ·rintro ρ w' he ⟨h14, -⟩
  have e14 : ρ 14 = .pointer (some ⟨bb, 0, none⟩) := h14
  simp [execOp, evR, e14, go_sem]
 refine tok_val rfl (.pointer (some ⟨bb, 4, none⟩)) (fun _ _ _ => rfl) ?_ ?_
 ·rintro ρ w' he ⟨h15, -⟩
  have e15 : ρ 15 = .pointer (some ⟨bb, 0, none⟩) := h15
  simp [execOp, evR, e15, go_sem]
 refine tok_val rfl (.int .i64 size) (fun _ _ _ => rfl) ?_ ?_
 ·rintro ρ w' he ⟨h16, -⟩
  have e16 : ρ 16 = .pointer (some ⟨bb, 4, none⟩) := h16
  have c := (HB.out.kb he.kb HNB1.out).blk.cell (i := 4) rfl
  simp [execOp, evR, e16, c, go_sem]
 refine tok_call rfl rfl Tryz.func12 (by kernel_rfl) (oRT (OpsAt bd d.ops) (fun v w => ∃ F1', S1 W0 w bd F1' x.d v x.l ∧ Cont F1 W F1' w) (fun v w => BssO w W.heap.size v x.r) x.l x.e) oRT_le (fun _ _ _ => rfl) ?_ ?_
 ·rintro ρ w' he ht ⟨h13, h17, -⟩
  have e13 : ρ 13 = .pointer (some ⟨bd, 0, none⟩) := h13
  have e17 : ρ 17 = .int .i64 size := h17
  simp only [evR, List.map_toArray, List.map_cons, List.map_nil, e13, e17]
  have hp : S1 W0 w' bd F1 d L ol ∧ Cont F1 W F1 w' := ht
  refine (HO1.out w' hp.1 (hp.2.low HP.out.hx HP.out.s1.low)).mono ?_
  rintro e w2 ⟨L', va, rfl, ⟨F1', hs, hc⟩, hno, hva⟩
  refine ⟨_, rfl, .inr ⟨hp.1.ops, hc.kb.mono fun _ h => .inl h⟩, ⟨L', va, rfl, ?_, ?_⟩, F1', L', hs, hp.2.trans hc⟩
  ·by_cases hz : x.l = none
   ·exact .inl ⟨hz, (hno hz).1⟩
   ·exact .inr ⟨hz, hs.ops.ne (by have := (HFM.out.2 hz).1; omega), F1', hs, hp.2.trans hc⟩
  ·by_cases hz : x.l = none
   ·exact .inl ⟨hz, (hno hz).2⟩
   ·exact .inr ⟨hz, hs.ops.ne (by have := (HFM.out.2 hz).1; omega), hva.mono hp.2.kb.size⟩
 refine tok_any rfl false (oRT (OpsAt bd d.ops) (fun v w => ∃ F1', S1 W0 w bd F1' x.d v x.l ∧ Cont F1 W F1' w) (fun v w => BssO w W.heap.size v x.r) x.l x.e) oRT_le (fun ρ w' he hk => ?_) ?_
 ·rw [if_pos (show wantedR _ _ _ = true from rfl), if_neg (by simp)]
  obtain ⟨h18, -⟩ := hk
  have e18 : (oRT (OpsAt bd d.ops) (fun v w => ∃ F1', S1 W0 w bd F1' x.d v x.l ∧ Cont F1 W F1' w) (fun v w => BssO w W.heap.size v x.r) x.l x.e) (ρ 18) w' := h18
  simp only [execOp, evR, Sem.run_pure, tokUpon]
  exact ⟨by trivial, e18⟩
 refine tok_any rfl false (oRL (OpsAt bd d.ops) (fun v w => ∃ F1', S1 W0 w bd F1' x.d v x.l ∧ Cont F1 W F1' w) x.l) oRL_le (fun ρ w' he hk => ?_) ?_
 ·rw [if_pos (show wantedR _ _ _ = true from rfl), if_neg (by simp)]
  obtain ⟨h9, -⟩ := hk
  have e9 : (oRT (OpsAt bd d.ops) (fun v w => ∃ F1', S1 W0 w bd F1' x.d v x.l ∧ Cont F1 W F1' w) (fun v w => BssO w W.heap.size v x.r) x.l x.e) (ρ 9) w' := h9
  obtain ⟨a_, b_, hv, h1, h2⟩ := e9
  simp [execOp, evR, hv, go_sem, tokUpon]
  exact h1
 refine tok_any rfl false (oRV (OpsAt bd d.ops) (fun v w => BssO w W.heap.size v x.r) x.l) oRV_le (fun ρ w' he hk => ?_) ?_
 ·rw [if_pos (show wantedR _ _ _ = true from rfl), if_neg (by simp)]
  obtain ⟨h9, -⟩ := hk
  have e9 : (oRT (OpsAt bd d.ops) (fun v w => ∃ F1', S1 W0 w bd F1' x.d v x.l ∧ Cont F1 W F1' w) (fun v w => BssO w W.heap.size v x.r) x.l x.e) (ρ 9) w' := h9
  obtain ⟨a_, b_, hv, h1, h2⟩ := e9
  simp [execOp, evR, hv, go_sem, tokUpon]
  exact h2
 refine tok_any rfl false (fun v _ => v = .int .i64 (x.e : Int)) (fun _ _ _ h _ => h) (fun ρ w' he hk => ?_) ?_
 ·rw [if_pos (show wantedR _ _ _ = true from rfl), if_neg (by simp)]
  obtain ⟨h9, -⟩ := hk
  have e9 : (oRT (OpsAt bd d.ops) (fun v w => ∃ F1', S1 W0 w bd F1' x.d v x.l ∧ Cont F1 W F1' w) (fun v w => BssO w W.heap.size v x.r) x.l x.e) (ρ 9) w' := h9
  obtain ⟨a_, b_, hv, h1, h2⟩ := e9
  simp [execOp, evR, hv, go_sem, tokUpon]
 refine tok_any rfl false (oRL (OpsAt bd d.ops) (fun v w => ∃ F1', S1 W0 w bd F1' x.d v x.l ∧ Cont F1 W F1' w) x.l) oRL_le (fun ρ w' he hk => ?_) ?_
 ·rw [if_pos (show wantedR _ _ _ = true from rfl), if_neg (by simp)]
  obtain ⟨h19, -⟩ := hk
  have e19 : (oRL (OpsAt bd d.ops) (fun v w => ∃ F1', S1 W0 w bd F1' x.d v x.l ∧ Cont F1 W F1' w) x.l) (ρ 19) w' := h19
  simp only [execOp, evR, Sem.run_pure, tokUpon]
  exact ⟨by trivial, e19⟩
 refine tok_any rfl false (oRV (OpsAt bd d.ops) (fun v w => BssO w W.heap.size v x.r) x.l) oRV_le (fun ρ w' he hk => ?_) ?_
 ·rw [if_pos (show wantedR _ _ _ = true from rfl), if_neg (by simp)]
  obtain ⟨h20, -⟩ := hk
  have e20 : (oRV (OpsAt bd d.ops) (fun v w => BssO w W.heap.size v x.r) x.l) (ρ 20) w' := h20
  simp only [execOp, evR, Sem.run_pure, tokUpon]
  exact ⟨by trivial, e20⟩
 refine tok_any rfl false (fun v _ => v = .int .i64 (x.e : Int)) (fun _ _ _ h _ => h) (fun ρ w' he hk => ?_) ?_
 ·rw [if_pos (show wantedR _ _ _ = true from rfl), if_neg (by simp)]
  obtain ⟨h21, -⟩ := hk
  have e21 : (fun v _ => v = .int .i64 (x.e : Int)) (ρ 21) w' := h21
  simp only [execOp, evR, Sem.run_pure, tokUpon]
  exact ⟨by trivial, e21⟩
 refine tok_nil ?_
 rintro ρ w' hle htk ⟨f5, f4, f3, f21, f20, f19, f9, f18, f17, f16, f15, f14, f13, f12, f11, f10, -⟩ -
 replace f3 : (oRL (OpsAt bd d.ops) (fun v w => ∃ F1', S1 W0 w bd F1' x.d v x.l ∧ Cont F1 W F1' w) x.l) (ρ 3) w' := f3
 replace f4 : (oRV (OpsAt bd d.ops) (fun v w => BssO w W.heap.size v x.r) x.l) (ρ 4) w' := f4
 replace f5 : (fun v _ => v = .int .i64 (x.e : Int)) (ρ 5) w' := f5
 simp only [puts, Act.put, List.setIfInBounds_toArray, List.set_cons_zero, List.set_cons_succ]
 have HS := Lib.hid (show ∃ F1', S1 W0 w' bd F1' x.d (ρ 3) x.l ∧ Cont F1 W F1' w' by
  rcases f3 with ⟨h1, h2⟩ | ⟨_, _, h⟩
  ·obtain ⟨F1', L', hs, hc⟩ := (show ∃ F1' L', S1 W0 w' bd F1' x.d L' x.l ∧ Cont F1 W F1' w' from htk)
   rw [h1] at hs
   rw [h1, h2, ← hs.nil]
   exact ⟨F1', hs, hc⟩
  ·exact h)
 have HV := Lib.hid (show BssO w' W.heap.size (ρ 4) x.r by
  rcases f4 with ⟨h1, h2⟩ | ⟨_, _, h⟩
  ·rw [h2, HFM.out.1 h1]
   exact BssO.nil_ _ _
  ·exact h)
 rw [show ρ 5 = .int .i64 (x.e : Int) from f5]
 clear htk f3 f4 f5 f9 f10 f11 f12 f13 f14 f15 f16 f17 f18 f19 f20 f21 HO1 hle
 generalize ρ 3 = L1 at *
 generalize ρ 4 = va1 at *
 obtain ⟨F1', hs1, hc1⟩ := HS.out
 have HC1 := Lib.hid hc1
 have HP1 := Lib.hid (HP.out.one hs1 hc1)
 have HV1 := Lib.hid HV.out
 obtain ⟨w1, hw1⟩ : ∃ w1, w1 = w' := ⟨_, rfl⟩
 rw [← hw1] at HC1 HP1 HV1 ⊢
 have hb1 : BlkT w1 bb 31 [.pointer (some ⟨bd, 0, none⟩), .pointer p0, .pointer (some ⟨br, 0, none⟩), .pointer q0, .int .i64 size] := HB.out.kb HC1.out.kb (fun h => HN.out (.inl h))
 have HB1 := Lib.hid hb1
 have HNB2 := Lib.hid (show ¬ (F2 bb ∨ w1.heap.size ≤ bb) from fun hq => hq.elim (fun h => HN.out (.inr h)) (fun h => Nat.not_lt.2 h hb1.lt))
 clear hs1 hc1 hw1 HS HV hb1
 go_wp2_with fail
 refine wp_region_tok [false, false, false, false, false, false, false, false, true, false, false, false, false, false, false, false] (LeO (OpsAt br d.ops) (fun k => F2 k ∨ w1.heap.size ≤ k)) (fun c w => if c < 1 then S2 W0 w br F2 d R ol ∧ Cont F2 w1 F2 w else ∃ F2' R', S2 W0 w br F2' x.d R' x.l ∧ Cont F2 w1 F2' w) 1 (by kernel_rfl) (by kernel_rfl) (by kernel_rfl) (by kernel_rfl) (preLeO _ _) (.inr ⟨HP1.out.s2.ops, Kb.of_ext (ext_drew w1)⟩) ⟨HP1.out.s2.ext HP1.out.hx (ext_drew w1), (Cont.refl fun _ h => h).ext (ext_drew w1)⟩ ?_
 refine tok_val rfl (.pointer (some ⟨bb, 0, none⟩)) (fun _ _ _ => rfl) ?_ ?_
 ·rintro ρ w' he ⟨h0, -⟩
  have e0 : ρ 0 = .pointer (some ⟨bb, 0, none⟩) := h0
  simp [execOp, evR, e0, go_sem]
 refine tok_val rfl (.pointer (some ⟨bb, 0, none⟩)) (fun _ _ _ => rfl) ?_ ?_
 ·rintro ρ w' he ⟨h23, -⟩
  have e23 : ρ 23 = .pointer (some ⟨bb, 0, none⟩) := h23
  simp [execOp, evR, e23, go_sem]
 refine tok_val rfl (.pointer (some ⟨bb, 2, none⟩)) (fun _ _ _ => rfl) ?_ ?_
 ·rintro ρ w' he ⟨h24, -⟩
  have e24 : ρ 24 = .pointer (some ⟨bb, 0, none⟩) := h24
  simp [execOp, evR, e24, go_sem]
 refine tok_val rfl (.pointer (some ⟨br, 0, none⟩)) (fun _ _ _ => rfl) ?_ ?_
 ·rintro ρ w' he ⟨h25, -⟩
  have e25 : ρ 25 = .pointer (some ⟨bb, 2, none⟩) := h25
  have c := (HB1.out.kb he.kb HNB2.out).blk.cell (i := 2) rfl
  simp [execOp, evR, e25, c, go_sem]
 refine tok_val rfl (.pointer (some ⟨bb, 0, none⟩)) (fun _ _ _ => rfl) ?_ ?_
 ·rintro ρ w' he ⟨h0, -⟩
  have e0 : ρ 0 = .pointer (some ⟨bb, 0, none⟩) := h0
  simp [execOp, evR, e0, go_sem]
 refine tok_val rfl (.pointer (some ⟨bb, 0, none⟩)) (fun _ _ _ => rfl) ?_ ?_
 ·rintro ρ w' he ⟨h27, -⟩
  have e27 : ρ 27 = .pointer (some ⟨bb, 0, none⟩) := h27
  simp [execOp, evR, e27, go_sem]
 refine tok_val rfl (.pointer (some ⟨bb, 4, none⟩)) (fun _ _ _ => rfl) ?_ ?_
 ·rintro ρ w' he ⟨h28, -⟩
  have e28 : ρ 28 = .pointer (some ⟨bb, 0, none⟩) := h28
  simp [execOp, evR, e28, go_sem]
 refine tok_val rfl (.int .i64 size) (fun _ _ _ => rfl) ?_ ?_
 ·rintro ρ w' he ⟨h29, -⟩
  have e29 : ρ 29 = .pointer (some ⟨bb, 4, none⟩) := h29
  have c := (HB1.out.kb he.kb HNB2.out).blk.cell (i := 4) rfl
  simp [execOp, evR, e29, c, go_sem]
 refine tok_call rfl rfl Tryz.func17 (by kernel_rfl) (oRT (OpsAt br d.ops) (fun v w => ∃ F2', S2 W0 w br F2' x.d v x.l ∧ Cont F2 w1 F2' w) (fun v w => BssO w w1.heap.size v x.r) x.l x.e) oRT_le (fun _ _ _ => rfl) ?_ ?_
 ·rintro ρ w' he ht ⟨h26, h30, -⟩
  have e26 : ρ 26 = .pointer (some ⟨br, 0, none⟩) := h26
  have e30 : ρ 30 = .int .i64 size := h30
  simp only [evR, List.map_toArray, List.map_cons, List.map_nil, e26, e30]
  have hp : S2 W0 w' br F2 d R ol ∧ Cont F2 w1 F2 w' := ht
  refine (HO2.out w' F2 hp.1 (hp.2.low HP1.out.hx HP1.out.s2.low)).mono ?_
  rintro e w2 ⟨R', va, rfl, ⟨F2', hs, hc⟩, hno, hva⟩
  refine ⟨_, rfl, .inr ⟨hp.1.ops, hc.kb.mono fun _ h => .inl h⟩, ⟨R', va, rfl, ?_, ?_⟩, F2', R', hs, hp.2.trans hc⟩
  ·by_cases hz : x.l = none
   ·exact .inl ⟨hz, (hno hz).1⟩
   ·exact .inr ⟨hz, hs.ops.ne (by have := (HFM.out.2 hz).1; omega), F2', hs, hp.2.trans hc⟩
  ·by_cases hz : x.l = none
   ·exact .inl ⟨hz, (hno hz).2⟩
   ·exact .inr ⟨hz, hs.ops.ne (by have := (HFM.out.2 hz).1; omega), hva.mono hp.2.kb.size⟩
 refine tok_any rfl false (oRT (OpsAt br d.ops) (fun v w => ∃ F2', S2 W0 w br F2' x.d v x.l ∧ Cont F2 w1 F2' w) (fun v w => BssO w w1.heap.size v x.r) x.l x.e) oRT_le (fun ρ w' he hk => ?_) ?_
 ·rw [if_pos (show wantedR _ _ _ = true from rfl), if_neg (by simp)]
  obtain ⟨h31, -⟩ := hk
  have e31 : (oRT (OpsAt br d.ops) (fun v w => ∃ F2', S2 W0 w br F2' x.d v x.l ∧ Cont F2 w1 F2' w) (fun v w => BssO w w1.heap.size v x.r) x.l x.e) (ρ 31) w' := h31
  simp only [execOp, evR, Sem.run_pure, tokUpon]
  exact ⟨by trivial, e31⟩
 refine tok_any rfl false (oRL (OpsAt br d.ops) (fun v w => ∃ F2', S2 W0 w br F2' x.d v x.l ∧ Cont F2 w1 F2' w) x.l) oRL_le (fun ρ w' he hk => ?_) ?_
 ·rw [if_pos (show wantedR _ _ _ = true from rfl), if_neg (by simp)]
  obtain ⟨h22, -⟩ := hk
  have e22 : (oRT (OpsAt br d.ops) (fun v w => ∃ F2', S2 W0 w br F2' x.d v x.l ∧ Cont F2 w1 F2' w) (fun v w => BssO w w1.heap.size v x.r) x.l x.e) (ρ 22) w' := h22
  obtain ⟨a_, b_, hv, h1, h2⟩ := e22
  simp [execOp, evR, hv, go_sem, tokUpon]
  exact h1
 refine tok_any rfl false (oRV (OpsAt br d.ops) (fun v w => BssO w w1.heap.size v x.r) x.l) oRV_le (fun ρ w' he hk => ?_) ?_
 ·rw [if_pos (show wantedR _ _ _ = true from rfl), if_neg (by simp)]
  obtain ⟨h22, -⟩ := hk
  have e22 : (oRT (OpsAt br d.ops) (fun v w => ∃ F2', S2 W0 w br F2' x.d v x.l ∧ Cont F2 w1 F2' w) (fun v w => BssO w w1.heap.size v x.r) x.l x.e) (ρ 22) w' := h22
  obtain ⟨a_, b_, hv, h1, h2⟩ := e22
  simp [execOp, evR, hv, go_sem, tokUpon]
  exact h2
 refine tok_any rfl false (fun v _ => v = .int .i64 (x.e : Int)) (fun _ _ _ h _ => h) (fun ρ w' he hk => ?_) ?_
 ·rw [if_pos (show wantedR _ _ _ = true from rfl), if_neg (by simp)]
  obtain ⟨h22, -⟩ := hk
  have e22 : (oRT (OpsAt br d.ops) (fun v w => ∃ F2', S2 W0 w br F2' x.d v x.l ∧ Cont F2 w1 F2' w) (fun v w => BssO w w1.heap.size v x.r) x.l x.e) (ρ 22) w' := h22
  obtain ⟨a_, b_, hv, h1, h2⟩ := e22
  simp [execOp, evR, hv, go_sem, tokUpon]
 refine tok_any rfl false (oRL (OpsAt br d.ops) (fun v w => ∃ F2', S2 W0 w br F2' x.d v x.l ∧ Cont F2 w1 F2' w) x.l) oRL_le (fun ρ w' he hk => ?_) ?_
 ·rw [if_pos (show wantedR _ _ _ = true from rfl), if_neg (by simp)]
  obtain ⟨h32, -⟩ := hk
  have e32 : (oRL (OpsAt br d.ops) (fun v w => ∃ F2', S2 W0 w br F2' x.d v x.l ∧ Cont F2 w1 F2' w) x.l) (ρ 32) w' := h32
  simp only [execOp, evR, Sem.run_pure, tokUpon]
  exact ⟨by trivial, e32⟩
 refine tok_any rfl false (oRV (OpsAt br d.ops) (fun v w => BssO w w1.heap.size v x.r) x.l) oRV_le (fun ρ w' he hk => ?_) ?_
 ·rw [if_pos (show wantedR _ _ _ = true from rfl), if_neg (by simp)]
  obtain ⟨h33, -⟩ := hk
  have e33 : (oRV (OpsAt br d.ops) (fun v w => BssO w w1.heap.size v x.r) x.l) (ρ 33) w' := h33
  simp only [execOp, evR, Sem.run_pure, tokUpon]
  exact ⟨by trivial, e33⟩
 refine tok_any rfl false (fun v _ => v = .int .i64 (x.e : Int)) (fun _ _ _ h _ => h) (fun ρ w' he hk => ?_) ?_
 ·rw [if_pos (show wantedR _ _ _ = true from rfl), if_neg (by simp)]
  obtain ⟨h34, -⟩ := hk
  have e34 : (fun v _ => v = .int .i64 (x.e : Int)) (ρ 34) w' := h34
  simp only [execOp, evR, Sem.run_pure, tokUpon]
  exact ⟨by trivial, e34⟩
 refine tok_nil ?_
 rintro ρ w' hle htk ⟨f8, f7, f6, f34, f33, f32, f22, f31, f30, f29, f28, f27, f26, f25, f24, f23, -⟩ -
 replace f6 : (oRL (OpsAt br d.ops) (fun v w => ∃ F2', S2 W0 w br F2' x.d v x.l ∧ Cont F2 w1 F2' w) x.l) (ρ 6) w' := f6
 replace f7 : (oRV (OpsAt br d.ops) (fun v w => BssO w w1.heap.size v x.r) x.l) (ρ 7) w' := f7
 replace f8 : (fun v _ => v = .int .i64 (x.e : Int)) (ρ 8) w' := f8
 simp only [puts, Act.put, List.setIfInBounds_toArray, List.set_cons_zero, List.set_cons_succ]
 have HS := Lib.hid (show ∃ F2', S2 W0 w' br F2' x.d (ρ 6) x.l ∧ Cont F2 w1 F2' w' by
  rcases f6 with ⟨h1, h2⟩ | ⟨_, _, h⟩
  ·obtain ⟨F2', R', hs, hc⟩ := (show ∃ F2' R', S2 W0 w' br F2' x.d R' x.l ∧ Cont F2 w1 F2' w' from htk)
   rw [h1] at hs
   rw [h1, h2, ← hs.nil]
   exact ⟨F2', hs, hc⟩
  ·exact h)
 have HV2 := Lib.hid (show BssO w' w1.heap.size (ρ 7) x.r by
  rcases f7 with ⟨h1, h2⟩ | ⟨_, _, h⟩
  ·rw [h2, HFM.out.1 h1]
   exact BssO.nil_ _ _
  ·exact h)
 rw [show ρ 8 = .int .i64 (x.e : Int) from f8]
 clear htk f6 f7 f8 f22 f23 f24 f25 f26 f27 f28 f29 f30 f31 f32 f33 f34 HO2 hle HFM
 generalize ρ 6 = R1 at *
 generalize ρ 7 = va2 at *
 obtain ⟨F2', hs2, hc2⟩ := HS.out
 have HC2 := Lib.hid hc2
 have HP2 := Lib.hid (HP1.out.two hs2 hc2)
 have HVV1 := Lib.hid (HV1.out.kbr hc2.kb (fun j h1 h2 hq => by have := HP.out.s2.lt j hq; omega))
 have hb2 : BlkT w' bb 31 [.pointer (some ⟨bd, 0, none⟩), .pointer p0, .pointer (some ⟨br, 0, none⟩), .pointer q0, .int .i64 size] := HB1.out.kb hc2.kb (fun h => HN.out (.inr h))
 have HCC := Lib.hid (show Cont (uni F1 F2) W (uni F1' F2') w' from (HC1.out.uni1 (F2 := F2)).trans (hc2.uni2 (F1 := F1')))
 have HNN := Lib.hid (show ¬ uni F1' F2' bb from fun hq => (HCC.out.sub bb hq).elim HN.out (fun hs => Nat.not_lt.2 hs HB.out.lt))
 have HB2 := Lib.hid hb2
 clear hs2 hc2 HS HV1 hb2
 obtain ⟨A1, c1, rfl⟩ := HVV1.out.form
 obtain ⟨A2, c2, rfl⟩ := HV2.out.form
 have fin : ∀ (L' R' : Value) (W2 : World), L1 = L' → R1 = R' → Ext ((w'.setCell ⟨bb, 1, none⟩ L').setCell ⟨bb, 3, none⟩ R') W2 → ∃ F1' F2' L' R', WP W0 W2 bd br F1' F2' x.d x.l L' x.d x.l R' ∧
   BlkT W2 bb 31 [.pointer (some ⟨bd, 0, none⟩), L', .pointer (some ⟨br, 0, none⟩), R', .int .i64 size] ∧ ¬ uni F1' F2' bb ∧ Cont (fun k => uni F1 F2 k ∨ k = bb) W (fun k => uni F1' F2' k ∨ k = bb) W2 := by
  rintro L' R' W2 rfl rfl he
  have hk : Kb (fun k => k = bb) w' W2 := ((Kb.set (fun k => k = bb) w' bb 1 L1 rfl).trans (Kb.set (fun k => k = bb) _ bb 3 R1 rfl) (fun _ h => .inl h)).trans (Kb.of_ext (fp := fun k => k = bb) he) (fun _ h => .inl h)
  have hx2 : Ext W0 W2 := hk.ext HP2.out.hx (fun k hk => by rw [hk]; exact HLO.out)
  refine ⟨F1', F2', L1, R1, ⟨HP2.out.s1.kb hk (fun j hj hq => HNN.out (by rw [← hq]; exact .inl hj)), HP2.out.s2.kb hk (fun j hj hq => HNN.out (by rw [← hq]; exact .inr hj)) hx2, HP2.out.ap, hx2⟩, (((HB2.out.set 1 L1).set 3 R1).ext he), HNN.out, ⟨(HCC.out.kb.mono fun _ h => .inl h).trans hk (fun b hb => .inl (.inr hb)), fun k hk2 => hk2.elim (fun h => (HCC.out.sub k h).imp .inl id) (fun h => .inl (.inr h))⟩⟩
 have FIN := Lib.hid fin
 have HSA := Lib.hid (fun w (k : Kb (fun k => k = bb) w' w) => rSame_any _ _ x.r x.r w (HVV1.out.kbr k (fun j h1 h2 hq => by subst hq; have := HB.out.lt; omega)).bss (HV2.out.kbr k (fun j h1 h2 hq => by subst hq; have := HB1.out.lt; omega)).bss)
 clear fin
 have k1 := HB2.out.blk.cell (i := 1) rfl
 have t1 := HB2.out.blk.thaw 1
 cases hl : x.l with
 | none =>
  obtain rfl : L1 = .pointer none := by have h := HP2.out.s1; rw [hl] at h; exact h.nil
  obtain rfl : R1 = .pointer none := by have h := HP2.out.s2; rw [hl] at h; exact h.nil
  have k3 := (HB2.out.set 1 (.pointer none)).blk.cell (i := 3) rfl
  have t3 := (HB2.out.set 1 (.pointer none)).blk.thaw 3
  obtain ⟨w3, hw3⟩ : ∃ w3, w3 = (w'.setCell ⟨bb, 1, none⟩ (.pointer none)).setCell ⟨bb, 3, none⟩ (.pointer none) := ⟨_, rfl⟩
  have HSB := Lib.hid (HSA.out w3 (by rw [hw3]; exact (Kb.set (fun k => k = bb) w' bb 1 _ rfl).trans (Kb.set (fun k => k = bb) _ bb 3 _ rfl) (fun _ h => .inl h)))
  rw [show sameB x.r x.r = true by simp [sameB]] at HSB
  have HW3 := Lib.hid hw3
  go_wp2_with fail
  rw [← hw3]
  clear hw3 k1 t1 k3 t3
  refine HSB.out.mono ?_
  rintro e w4 ⟨rfl, hx4⟩
  go_wp2_with fail
  go_ret
  exact ⟨rfl, FIN.out _ _ w4 rfl rfl (by rw [← HW3.out]; exact hx4)⟩
 | some l =>
  obtain ⟨bl, rfl⟩ : ∃ bl, L1 = .pointer (some ⟨bl, 0, none⟩) := by have h := HP2.out.s1; rw [hl] at h; exact h.ptr
  obtain ⟨rl, rfl⟩ : ∃ bl, R1 = .pointer (some ⟨bl, 0, none⟩) := by have h := HP2.out.s2; rw [hl] at h; exact h.ptr
  have k3 := (HB2.out.set 1 (.pointer (some ⟨bl, 0, none⟩))).blk.cell (i := 3) rfl
  have t3 := (HB2.out.set 1 (.pointer (some ⟨bl, 0, none⟩))).blk.thaw 3
  obtain ⟨w3, hw3⟩ : ∃ w3, w3 = (w'.setCell ⟨bb, 1, none⟩ (.pointer (some ⟨bl, 0, none⟩))).setCell ⟨bb, 3, none⟩ (.pointer (some ⟨rl, 0, none⟩)) := ⟨_, rfl⟩
  have HSB := Lib.hid (HSA.out w3 (by rw [hw3]; exact (Kb.set (fun k => k = bb) w' bb 1 _ rfl).trans (Kb.set (fun k => k = bb) _ bb 3 _ rfl) (fun _ h => .inl h)))
  rw [show sameB x.r x.r = true by simp [sameB]] at HSB
  have HW3 := Lib.hid hw3
  go_wp2_with fail
  rw [← hw3]
  clear hw3 k1 t1 k3 t3
  refine HSB.out.mono ?_
  rintro e w4 ⟨rfl, hx4⟩
  go_wp2_with fail
  go_ret
  exact ⟨rfl, FIN.out _ _ w4 rfl rfl (by rw [← HW3.out]; exact hx4)⟩
theorem bsame_any {W0 W : World} {bb bd br c : Nat} {F1 F2 : Nat → Prop} {d : Dk} {ol : Option Lg} {L R : Value} {size : Int} (h : WP W0 W bd br F1 F2 d ol L d ol R)
  (hb : BlkT W bb 31 [.pointer (some ⟨bd, 0, none⟩), L, .pointer (some ⟨br, 0, none⟩), R, .int .i64 size]) (hok : d.Ok) (hlk : ∀ l, ol = some l → LOk c l) :
  Calls Tryz.prog 9 #[.pointer (some ⟨bb, 0, none⟩)] W fun e w' => e = .returned (.bool true) ∧ Ext W w' := by
 have HP := Lib.hid h
 have HB := Lib.hid hb.blk
 have HOK := Lib.hid hok
 have HLK := Lib.hid hlk
 clear h hb hok hlk
 go_enter Tryz.func9, Tryz.ntmps9
 go_wp2_with fail
 refine wp_region_mono (by kernel_rfl) (by kernel_rfl) ?_
 refine tele_move rfl (.inl rfl) rfl (isV (.pointer (some ⟨bb, 0, none⟩))) (fun ρ w' h => h) ?_
 refine tele_val rfl (.pointer (some ⟨bb, 0, none⟩)) (fun _ _ _ => rfl) ?_ ?_
 ·rintro ρ w' he ⟨h3, -⟩
  have e3 : ρ 3 = (.pointer (some ⟨bb, 0, none⟩)) := h3
  simp [execOp, evR, e3, go_sem]
 refine tele_val rfl (.pointer (some ⟨bb, 0, none⟩)) (fun _ _ _ => rfl) ?_ ?_
 ·rintro ρ w' he ⟨h4, -⟩
  have e4 : ρ 4 = (.pointer (some ⟨bb, 0, none⟩)) := h4
  simp [execOp, evR, e4, go_sem]
 refine tele_val rfl (.pointer (some ⟨bd, 0, none⟩)) (fun _ _ _ => rfl) ?_ ?_
 ·rintro ρ w' he ⟨h5, -⟩
  have e5 : ρ 5 = (.pointer (some ⟨bb, 0, none⟩)) := h5
  have c := (HB.out.ext he).cell (i := 0) rfl
  simp [execOp, evR, e5, c, go_sem]
 refine tele_move rfl (.inl rfl) rfl (isV (.pointer (some ⟨bb, 0, none⟩))) (fun ρ w' h => h) ?_
 refine tele_val rfl (.pointer (some ⟨bb, 0, none⟩)) (fun _ _ _ => rfl) ?_ ?_
 ·rintro ρ w' he ⟨h7, -⟩
  have e7 : ρ 7 = (.pointer (some ⟨bb, 0, none⟩)) := h7
  simp [execOp, evR, e7, go_sem]
 refine tele_val rfl (.pointer (some ⟨bb, 2, none⟩)) (fun _ _ _ => rfl) ?_ ?_
 ·rintro ρ w' he ⟨h8, -⟩
  have e8 : ρ 8 = (.pointer (some ⟨bb, 0, none⟩)) := h8
  simp [execOp, evR, e8, go_sem]
 refine tele_val rfl (.pointer (some ⟨br, 0, none⟩)) (fun _ _ _ => rfl) ?_ ?_
 ·rintro ρ w' he ⟨h9, -⟩
  have e9 : ρ 9 = (.pointer (some ⟨bb, 2, none⟩)) := h9
  have c := (HB.out.ext he).cell (i := 2) rfl
  simp [execOp, evR, e9, c, go_sem]
 refine tele_call rfl rfl Tryz.func19 (by kernel_rfl) (isV (.bool true)) (fun _ _ _ => rfl) ?_ ?_
 ·rintro ρ w' he ⟨h6, h10, -⟩
  have e6 : ρ 6 = (.pointer (some ⟨bd, 0, none⟩)) := h6
  have e10 : ρ 10 = (.pointer (some ⟨br, 0, none⟩)) := h10
  simp only [evR, List.map_toArray, List.map_cons, List.map_nil, e6, e10]
  refine (same_any ((HP.out.ext he).pair) HOK.out).mono ?_
  rintro e w2 ⟨rfl, hx2⟩
  exact ⟨_, rfl, hx2, rfl⟩
 refine tele_val rfl (.bool false) (fun _ _ _ => rfl) ?_ ?_
 ·rintro ρ w' he ⟨h11, -⟩
  have e11 : ρ 11 = (.bool true) := h11
  simp [execOp, evR, e11, go_sem]
 refine tele_nil ?_
 rintro ρ w' hext ⟨f12, f11, f10, f9, f8, f7, f6, f5, f4, f3, -⟩
 replace f12 : ρ 12 = (.bool false) := f12
 simp only [puts, Act.put, List.setIfInBounds_toArray, List.set_cons_zero, List.set_cons_succ]
 rw [f12]
 clear f3 f4 f5 f6 f7 f8 f9 f10 f11 f12
 have hx1 := hext
 obtain ⟨w1, hw1⟩ : ∃ w1, w1 = w' := ⟨_, rfl⟩
 rw [← hw1] at hext ⊢
 have HX1 := Lib.hid hext
 replace HP := Lib.hid (HP.out.ext hext)
 replace HB := Lib.hid (HB.out.ext hext)
 clear hext hw1 hx1
 cases hol : ol with
 | none =>
  subst hol
  obtain rfl := HP.out.s2.nil
  go_wp2_with fail
  refine wp_region_mono (by kernel_rfl) (by kernel_rfl) ?_
  refine tele_move rfl (.inl rfl) rfl (isV (.pointer (some ⟨bb, 0, none⟩))) (fun ρ w' h => h) ?_
  refine tele_val rfl (.pointer (some ⟨bb, 0, none⟩)) (fun _ _ _ => rfl) ?_ ?_
  ·rintro ρ w' he ⟨h13, -⟩
   have e13 : ρ 13 = (.pointer (some ⟨bb, 0, none⟩)) := h13
   simp [execOp, evR, e13, go_sem]
  refine tele_val rfl (.pointer (some ⟨bb, 3, none⟩)) (fun _ _ _ => rfl) ?_ ?_
  ·rintro ρ w' he ⟨h14, -⟩
   have e14 : ρ 14 = (.pointer (some ⟨bb, 0, none⟩)) := h14
   simp [execOp, evR, e14, go_sem]
  refine tele_val rfl (.pointer none) (fun _ _ _ => rfl) ?_ ?_
  ·rintro ρ w' he ⟨h15, -⟩
   have e15 : ρ 15 = (.pointer (some ⟨bb, 3, none⟩)) := h15
   have c := (HB.out.ext he).cell (i := 3) rfl
   simp [execOp, evR, e15, c, go_sem]
  refine tele_val rfl (.bool true) (fun _ _ _ => rfl) ?_ ?_
  ·rintro ρ w' he ⟨h16, -⟩
   have e16 : ρ 16 = (.pointer none) := h16
   simp [execOp, evR, e16, go_sem]
  refine tele_move rfl (.inl rfl) rfl (isV (.bool true)) (fun ρ w' h => h) ?_
  refine tele_pass rfl (fun ρ w' hk => by obtain ⟨_, hg, -⟩ := hk; have eg : ρ 18 = (.bool true) := hg; simp [wantedR, Region.wanted, asBoolR, eg]) ?_
  refine tele_pass rfl (fun ρ w' hk => by obtain ⟨_, hg, -⟩ := hk; have eg : ρ 18 = (.bool true) := hg; simp [wantedR, Region.wanted, asBoolR, eg]) ?_
  refine tele_pass rfl (fun ρ w' hk => by obtain ⟨_, hg, -⟩ := hk; have eg : ρ 18 = (.bool true) := hg; simp [wantedR, Region.wanted, asBoolR, eg]) ?_
  refine tele_pass rfl (fun ρ w' hk => by obtain ⟨_, hg, -⟩ := hk; have eg : ρ 18 = (.bool true) := hg; simp [wantedR, Region.wanted, asBoolR, eg]) ?_
  refine tele_pass rfl (fun ρ w' hk => by obtain ⟨_, hg, -⟩ := hk; have eg : ρ 18 = (.bool true) := hg; simp [wantedR, Region.wanted, asBoolR, eg]) ?_
  refine tele_pass rfl (fun ρ w' hk => by obtain ⟨_, hg, -⟩ := hk; have eg : ρ 18 = (.bool true) := hg; simp [wantedR, Region.wanted, asBoolR, eg]) ?_
  refine tele_pass rfl (fun ρ w' hk => by obtain ⟨_, hg, -⟩ := hk; have eg : ρ 18 = (.bool true) := hg; simp [wantedR, Region.wanted, asBoolR, eg]) ?_
  refine tele_pass rfl (fun ρ w' hk => by obtain ⟨_, hg, -⟩ := hk; have eg : ρ 18 = (.bool true) := hg; simp [wantedR, Region.wanted, asBoolR, eg]) ?_
  refine tele_pass rfl (fun ρ w' hk => by obtain ⟨_, hg, -⟩ := hk; have eg : ρ 18 = (.bool true) := hg; simp [wantedR, Region.wanted, asBoolR, eg]) ?_
  refine tele_pass rfl (fun ρ w' hk => by obtain ⟨_, hg, -⟩ := hk; have eg : ρ 18 = (.bool true) := hg; simp [wantedR, Region.wanted, asBoolR, eg]) ?_
  refine tele_pass rfl (fun ρ w' hk => by obtain ⟨_, _, hg, -⟩ := hk; have eg : ρ 18 = (.bool true) := hg; simp [wantedR, Region.wanted, asBoolR, eg]) ?_
  refine tele_pass rfl (fun ρ w' hk => by obtain ⟨_, hg, -⟩ := hk; have eg : ρ 18 = (.bool true) := hg; simp [wantedR, Region.wanted, asBoolR, eg]) ?_
  refine tele_pass rfl (fun ρ w' hk => by obtain ⟨_, hg, -⟩ := hk; have eg : ρ 30 = undef := hg; simp [wantedR, Region.wanted, asBoolR, eg, undef]) ?_
  refine tele_pass rfl (fun ρ w' hk => by obtain ⟨_, hg, -⟩ := hk; have eg : ρ 30 = undef := hg; simp [wantedR, Region.wanted, asBoolR, eg, undef]) ?_
  refine tele_pass rfl (fun ρ w' hk => by obtain ⟨_, hg, -⟩ := hk; have eg : ρ 30 = undef := hg; simp [wantedR, Region.wanted, asBoolR, eg, undef]) ?_
  refine tele_pass rfl (fun ρ w' hk => by obtain ⟨_, hg, -⟩ := hk; have eg : ρ 30 = undef := hg; simp [wantedR, Region.wanted, asBoolR, eg, undef]) ?_
  refine tele_pass rfl (fun ρ w' hk => by obtain ⟨_, hg, -⟩ := hk; have eg : ρ 30 = undef := hg; simp [wantedR, Region.wanted, asBoolR, eg, undef]) ?_
  refine tele_pass rfl (fun ρ w' hk => by obtain ⟨_, hg, -⟩ := hk; have eg : ρ 30 = undef := hg; simp [wantedR, Region.wanted, asBoolR, eg, undef]) ?_
  refine tele_pass rfl (fun ρ w' hk => by obtain ⟨_, hg, -⟩ := hk; have eg : ρ 30 = undef := hg; simp [wantedR, Region.wanted, asBoolR, eg, undef]) ?_
  refine tele_pass rfl (fun ρ w' hk => by obtain ⟨_, hg, -⟩ := hk; have eg : ρ 30 = undef := hg; simp [wantedR, Region.wanted, asBoolR, eg, undef]) ?_
  refine tele_pass rfl (fun ρ w' hk => by obtain ⟨_, hg, -⟩ := hk; have eg : ρ 30 = undef := hg; simp [wantedR, Region.wanted, asBoolR, eg, undef]) ?_
  refine tele_pass rfl (fun ρ w' hk => by obtain ⟨_, hg, -⟩ := hk; have eg : ρ 30 = undef := hg; simp [wantedR, Region.wanted, asBoolR, eg, undef]) ?_
  refine tele_pass rfl (fun ρ w' hk => by obtain ⟨_, _, hg, -⟩ := hk; have eg : ρ 30 = undef := hg; simp [wantedR, Region.wanted, asBoolR, eg, undef]) ?_
  refine tele_pass rfl (fun ρ w' hk => by obtain ⟨_, _, hg, -⟩ := hk; have eg : ρ 18 = (.bool true) := hg; simp [wantedR, Region.wanted, asBoolR, eg]) ?_
  refine tele_pass rfl (fun ρ w' hk => by obtain ⟨_, hg, -⟩ := hk; have eg : ρ 18 = (.bool true) := hg; simp [wantedR, Region.wanted, asBoolR, eg]) ?_
  refine tele_pass rfl (fun ρ w' hk => by obtain ⟨_, hg, -⟩ := hk; have eg : ρ 43 = undef := hg; simp [wantedR, Region.wanted, asBoolR, eg, undef]) ?_
  refine tele_pass rfl (fun ρ w' hk => by obtain ⟨_, hg, -⟩ := hk; have eg : ρ 43 = undef := hg; simp [wantedR, Region.wanted, asBoolR, eg, undef]) ?_
  refine tele_pass rfl (fun ρ w' hk => by obtain ⟨_, hg, -⟩ := hk; have eg : ρ 43 = undef := hg; simp [wantedR, Region.wanted, asBoolR, eg, undef]) ?_
  refine tele_pass rfl (fun ρ w' hk => by obtain ⟨_, hg, -⟩ := hk; have eg : ρ 43 = undef := hg; simp [wantedR, Region.wanted, asBoolR, eg, undef]) ?_
  refine tele_pass rfl (fun ρ w' hk => by obtain ⟨_, hg, -⟩ := hk; have eg : ρ 43 = undef := hg; simp [wantedR, Region.wanted, asBoolR, eg, undef]) ?_
  refine tele_pass rfl (fun ρ w' hk => by obtain ⟨_, hg, -⟩ := hk; have eg : ρ 43 = undef := hg; simp [wantedR, Region.wanted, asBoolR, eg, undef]) ?_
  refine tele_pass rfl (fun ρ w' hk => by obtain ⟨_, hg, -⟩ := hk; have eg : ρ 43 = undef := hg; simp [wantedR, Region.wanted, asBoolR, eg, undef]) ?_
  refine tele_pass rfl (fun ρ w' hk => by obtain ⟨_, hg, -⟩ := hk; have eg : ρ 43 = undef := hg; simp [wantedR, Region.wanted, asBoolR, eg, undef]) ?_
  refine tele_pass rfl (fun ρ w' hk => by obtain ⟨_, hg, -⟩ := hk; have eg : ρ 43 = undef := hg; simp [wantedR, Region.wanted, asBoolR, eg, undef]) ?_
  refine tele_pass rfl (fun ρ w' hk => by obtain ⟨_, hg, -⟩ := hk; have eg : ρ 43 = undef := hg; simp [wantedR, Region.wanted, asBoolR, eg, undef]) ?_
  refine tele_pass rfl (fun ρ w' hk => by obtain ⟨_, hg, -⟩ := hk; have eg : ρ 43 = undef := hg; simp [wantedR, Region.wanted, asBoolR, eg, undef]) ?_
  refine tele_pass rfl (fun ρ w' hk => by obtain ⟨_, hg, -⟩ := hk; have eg : ρ 43 = undef := hg; simp [wantedR, Region.wanted, asBoolR, eg, undef]) ?_
  refine tele_pass rfl (fun ρ w' hk => by obtain ⟨_, _, hg, -⟩ := hk; have eg : ρ 43 = undef := hg; simp [wantedR, Region.wanted, asBoolR, eg, undef]) ?_
  refine tele_pass rfl (fun ρ w' hk => by obtain ⟨_, _, hg, -⟩ := hk; have eg : ρ 18 = (.bool true) := hg; simp [wantedR, Region.wanted, asBoolR, eg]) ?_
  refine tele_pass rfl (fun ρ w' hk => by obtain ⟨_, hg, -⟩ := hk; have eg : ρ 18 = (.bool true) := hg; simp [wantedR, Region.wanted, asBoolR, eg]) ?_
  refine tele_pass rfl (fun ρ w' hk => by obtain ⟨_, hg, -⟩ := hk; have eg : ρ 58 = undef := hg; simp [wantedR, Region.wanted, asBoolR, eg, undef]) ?_
  refine tele_pass rfl (fun ρ w' hk => by obtain ⟨_, hg, -⟩ := hk; have eg : ρ 58 = undef := hg; simp [wantedR, Region.wanted, asBoolR, eg, undef]) ?_
  refine tele_pass rfl (fun ρ w' hk => by obtain ⟨_, hg, -⟩ := hk; have eg : ρ 58 = undef := hg; simp [wantedR, Region.wanted, asBoolR, eg, undef]) ?_
  refine tele_pass rfl (fun ρ w' hk => by obtain ⟨_, hg, -⟩ := hk; have eg : ρ 58 = undef := hg; simp [wantedR, Region.wanted, asBoolR, eg, undef]) ?_
  refine tele_pass rfl (fun ρ w' hk => by obtain ⟨_, hg, -⟩ := hk; have eg : ρ 58 = undef := hg; simp [wantedR, Region.wanted, asBoolR, eg, undef]) ?_
  refine tele_pass rfl (fun ρ w' hk => by obtain ⟨_, hg, -⟩ := hk; have eg : ρ 58 = undef := hg; simp [wantedR, Region.wanted, asBoolR, eg, undef]) ?_
  refine tele_pass rfl (fun ρ w' hk => by obtain ⟨_, hg, -⟩ := hk; have eg : ρ 58 = undef := hg; simp [wantedR, Region.wanted, asBoolR, eg, undef]) ?_
  refine tele_pass rfl (fun ρ w' hk => by obtain ⟨_, hg, -⟩ := hk; have eg : ρ 58 = undef := hg; simp [wantedR, Region.wanted, asBoolR, eg, undef]) ?_
  refine tele_pass rfl (fun ρ w' hk => by obtain ⟨_, hg, -⟩ := hk; have eg : ρ 58 = undef := hg; simp [wantedR, Region.wanted, asBoolR, eg, undef]) ?_
  refine tele_pass rfl (fun ρ w' hk => by obtain ⟨_, hg, -⟩ := hk; have eg : ρ 58 = undef := hg; simp [wantedR, Region.wanted, asBoolR, eg, undef]) ?_
  refine tele_pass rfl (fun ρ w' hk => by obtain ⟨_, _, hg, -⟩ := hk; have eg : ρ 58 = undef := hg; simp [wantedR, Region.wanted, asBoolR, eg, undef]) ?_
  refine tele_pass rfl (fun ρ w' hk => by obtain ⟨_, _, hg, -⟩ := hk; have eg : ρ 18 = (.bool true) := hg; simp [wantedR, Region.wanted, asBoolR, eg]) ?_
  refine tele_val rfl (.bool true) (fun _ _ _ => rfl) ?_ ?_
  ·rintro ρ w' he ⟨h18, h70, -⟩
   have e18 : ρ 18 = (.bool true) := h18
   have e70 : ρ 70 = undef := h70
   simp [execOp, evR, e18, e70, go_sem]
  refine tele_move rfl (.inr rfl) rfl (isV (.bool true)) (fun ρ w' h => h) ?_
  refine tele_nil ?_
  rintro ρ w' hext ⟨f2, f71, f70, f69, f68, f67, f66, f65, f64, f63, f62, f61, f60, f59, f58, f57, f56, f55, f54, f53, f52, f51, f50, f49, f48, f47, f46, f45, f44, f43, f42, f41, f40, f39, f38, f37, f36, f35, f34, f33, f32, f31, f30, f29, f28, f27, f26, f25, f24, f23, f22, f21, f20, f19, f18, f17, f16, f15, f14, f13, -⟩
  replace f13 : ρ 13 = (.pointer (some ⟨bb, 0, none⟩)) := f13
  replace f14 : ρ 14 = (.pointer (some ⟨bb, 0, none⟩)) := f14
  replace f15 : ρ 15 = (.pointer (some ⟨bb, 3, none⟩)) := f15
  replace f16 : ρ 16 = (.pointer none) := f16
  replace f17 : ρ 17 = (.bool true) := f17
  replace f18 : ρ 18 = (.bool true) := f18
  replace f19 : ρ 19 = undef := f19
  replace f20 : ρ 20 = undef := f20
  replace f21 : ρ 21 = undef := f21
  replace f22 : ρ 22 = undef := f22
  replace f23 : ρ 23 = undef := f23
  replace f24 : ρ 24 = undef := f24
  replace f25 : ρ 25 = undef := f25
  replace f26 : ρ 26 = undef := f26
  replace f27 : ρ 27 = undef := f27
  replace f28 : ρ 28 = undef := f28
  replace f29 : ρ 29 = undef := f29
  replace f30 : ρ 30 = undef := f30
  replace f31 : ρ 31 = undef := f31
  replace f32 : ρ 32 = undef := f32
  replace f33 : ρ 33 = undef := f33
  replace f34 : ρ 34 = undef := f34
  replace f35 : ρ 35 = undef := f35
  replace f36 : ρ 36 = undef := f36
  replace f37 : ρ 37 = undef := f37
  replace f38 : ρ 38 = undef := f38
  replace f39 : ρ 39 = undef := f39
  replace f40 : ρ 40 = undef := f40
  replace f41 : ρ 41 = undef := f41
  replace f42 : ρ 42 = undef := f42
  replace f43 : ρ 43 = undef := f43
  replace f44 : ρ 44 = undef := f44
  replace f45 : ρ 45 = undef := f45
  replace f46 : ρ 46 = undef := f46
  replace f47 : ρ 47 = undef := f47
  replace f48 : ρ 48 = undef := f48
  replace f49 : ρ 49 = undef := f49
  replace f50 : ρ 50 = undef := f50
  replace f51 : ρ 51 = undef := f51
  replace f52 : ρ 52 = undef := f52
  replace f53 : ρ 53 = undef := f53
  replace f54 : ρ 54 = undef := f54
  replace f55 : ρ 55 = undef := f55
  replace f56 : ρ 56 = undef := f56
  replace f57 : ρ 57 = undef := f57
  replace f58 : ρ 58 = undef := f58
  replace f59 : ρ 59 = undef := f59
  replace f60 : ρ 60 = undef := f60
  replace f61 : ρ 61 = undef := f61
  replace f62 : ρ 62 = undef := f62
  replace f63 : ρ 63 = undef := f63
  replace f64 : ρ 64 = undef := f64
  replace f65 : ρ 65 = undef := f65
  replace f66 : ρ 66 = undef := f66
  replace f67 : ρ 67 = undef := f67
  replace f68 : ρ 68 = undef := f68
  replace f69 : ρ 69 = undef := f69
  replace f70 : ρ 70 = undef := f70
  replace f71 : ρ 71 = (.bool true) := f71
  replace f2 : ρ 2 = (.bool true) := f2
  simp only [puts, Act.put, List.setIfInBounds_toArray, List.set_cons_zero, List.set_cons_succ]
  rw [f2]
  go_wp2_with fail
  go_ret
  exact ⟨rfl, HX1.out.trans hext⟩
 | some l =>
  subst hol
  have hlk := HLK.out l rfl
  have HNE := Lib.hid hlk.ne
  have HNX := Lib.hid (show l.next ≤ 9000000000000000000 from Nat.le_trans hlk.nx9 (by decide))
  obtain ⟨bl, hLe, bm, pl, ms, v, hd1, hl1, -⟩ := HP.out.s1
  obtain ⟨rl, s, v2, hRe, hr2, -⟩ := HP.out.s2
  subst hLe hRe
  have HD1 := Lib.hid hd1
  have HL1 := Lib.hid hl1
  have HR2 := Lib.hid hr2
  clear hd1 hl1 hr2 hlk HLK
  go_wp2_with fail
  refine wp_region_mono (by kernel_rfl) (by kernel_rfl) ?_
  refine tele_move rfl (.inl rfl) rfl (isV (.pointer (some ⟨bb, 0, none⟩))) (fun ρ w' h => h) ?_
  refine tele_val rfl (.pointer (some ⟨bb, 0, none⟩)) (fun _ _ _ => rfl) ?_ ?_
  ·rintro ρ w' he ⟨h13, -⟩
   have e13 : ρ 13 = (.pointer (some ⟨bb, 0, none⟩)) := h13
   simp [execOp, evR, e13, go_sem]
  refine tele_val rfl (.pointer (some ⟨bb, 3, none⟩)) (fun _ _ _ => rfl) ?_ ?_
  ·rintro ρ w' he ⟨h14, -⟩
   have e14 : ρ 14 = (.pointer (some ⟨bb, 0, none⟩)) := h14
   simp [execOp, evR, e14, go_sem]
  refine tele_val rfl (.pointer (some ⟨rl, 0, none⟩)) (fun _ _ _ => rfl) ?_ ?_
  ·rintro ρ w' he ⟨h15, -⟩
   have e15 : ρ 15 = (.pointer (some ⟨bb, 3, none⟩)) := h15
   have c := (HB.out.ext he).cell (i := 3) rfl
   simp [execOp, evR, e15, c, go_sem]
  refine tele_val rfl (.bool false) (fun _ _ _ => rfl) ?_ ?_
  ·rintro ρ w' he ⟨h16, -⟩
   have e16 : ρ 16 = (.pointer (some ⟨rl, 0, none⟩)) := h16
   simp [execOp, evR, e16, go_sem]
  refine tele_move rfl (.inl rfl) rfl (isV (.bool false)) (fun ρ w' h => h) ?_
  refine tele_val rfl ((.pointer (some ⟨bb, 0, none⟩))) (fun ρ w' hk => by obtain ⟨_, hg, -⟩ := hk; have eg : ρ 18 = (.bool false) := hg; simp [wantedR, Region.wanted, asBoolR, eg]) ?_ ?_
  ·rintro ρ w' he ⟨h0, -⟩
   have e0 : ρ 0 = (.pointer (some ⟨bb, 0, none⟩)) := h0
   simp [execOp, evR, e0]
  refine tele_val rfl (.pointer (some ⟨bb, 0, none⟩)) (fun ρ w' hk => by obtain ⟨_, hg, -⟩ := hk; have eg : ρ 18 = (.bool false) := hg; simp [wantedR, Region.wanted, asBoolR, eg]) ?_ ?_
  ·rintro ρ w' he ⟨h19, -⟩
   have e19 : ρ 19 = (.pointer (some ⟨bb, 0, none⟩)) := h19
   simp [execOp, evR, e19, go_sem]
  refine tele_val rfl (.pointer (some ⟨bb, 1, none⟩)) (fun ρ w' hk => by obtain ⟨_, hg, -⟩ := hk; have eg : ρ 18 = (.bool false) := hg; simp [wantedR, Region.wanted, asBoolR, eg]) ?_ ?_
  ·rintro ρ w' he ⟨h20, -⟩
   have e20 : ρ 20 = (.pointer (some ⟨bb, 0, none⟩)) := h20
   simp [execOp, evR, e20, go_sem]
  refine tele_val rfl (.pointer (some ⟨bl, 0, none⟩)) (fun ρ w' hk => by obtain ⟨_, hg, -⟩ := hk; have eg : ρ 18 = (.bool false) := hg; simp [wantedR, Region.wanted, asBoolR, eg]) ?_ ?_
  ·rintro ρ w' he ⟨h21, -⟩
   have e21 : ρ 21 = (.pointer (some ⟨bb, 1, none⟩)) := h21
   have c := (HB.out.ext he).cell (i := 1) rfl
   simp [execOp, evR, e21, c, go_sem]
  refine tele_call rfl rfl Tryz.func20 (by kernel_rfl) (isV (.int .i64 (l.first : Int))) (fun ρ w' hk => by obtain ⟨_, hg, -⟩ := hk; have eg : ρ 18 = (.bool false) := hg; simp [wantedR, Region.wanted, asBoolR, eg]) ?_ ?_
  ·rintro ρ w' he ⟨h22, -⟩
   have e22 : ρ 22 = (.pointer (some ⟨bl, 0, none⟩)) := h22
   simp only [evR, List.map_toArray, List.map_cons, List.map_nil, e22]
   refine (wFirst_any (HD1.out.ext he) (HL1.out.ext he) HNE.out HNX.out).mono ?_
   rintro e w2 ⟨rfl, hx2⟩
   exact ⟨_, rfl, hx2, rfl⟩
  refine tele_val rfl ((.pointer (some ⟨bb, 0, none⟩))) (fun ρ w' hk => by obtain ⟨_, hg, -⟩ := hk; have eg : ρ 18 = (.bool false) := hg; simp [wantedR, Region.wanted, asBoolR, eg]) ?_ ?_
  ·rintro ρ w' he ⟨h0, -⟩
   have e0 : ρ 0 = (.pointer (some ⟨bb, 0, none⟩)) := h0
   simp [execOp, evR, e0]
  refine tele_val rfl (.pointer (some ⟨bb, 0, none⟩)) (fun ρ w' hk => by obtain ⟨_, hg, -⟩ := hk; have eg : ρ 18 = (.bool false) := hg; simp [wantedR, Region.wanted, asBoolR, eg]) ?_ ?_
  ·rintro ρ w' he ⟨h24, -⟩
   have e24 : ρ 24 = (.pointer (some ⟨bb, 0, none⟩)) := h24
   simp [execOp, evR, e24, go_sem]
  refine tele_val rfl (.pointer (some ⟨bb, 3, none⟩)) (fun ρ w' hk => by obtain ⟨_, hg, -⟩ := hk; have eg : ρ 18 = (.bool false) := hg; simp [wantedR, Region.wanted, asBoolR, eg]) ?_ ?_
  ·rintro ρ w' he ⟨h25, -⟩
   have e25 : ρ 25 = (.pointer (some ⟨bb, 0, none⟩)) := h25
   simp [execOp, evR, e25, go_sem]
  refine tele_val rfl (.pointer (some ⟨rl, 0, none⟩)) (fun ρ w' hk => by obtain ⟨_, hg, -⟩ := hk; have eg : ρ 18 = (.bool false) := hg; simp [wantedR, Region.wanted, asBoolR, eg]) ?_ ?_
  ·rintro ρ w' he ⟨h26, -⟩
   have e26 : ρ 26 = (.pointer (some ⟨bb, 3, none⟩)) := h26
   have c := (HB.out.ext he).cell (i := 3) rfl
   simp [execOp, evR, e26, c, go_sem]
  refine tele_call rfl rfl Tryz.func21 (by kernel_rfl) (isV (.int .i64 (l.first : Int))) (fun ρ w' hk => by obtain ⟨_, hg, -⟩ := hk; have eg : ρ 18 = (.bool false) := hg; simp [wantedR, Region.wanted, asBoolR, eg]) ?_ ?_
  ·rintro ρ w' he ⟨h27, -⟩
   have e27 : ρ 27 = (.pointer (some ⟨rl, 0, none⟩)) := h27
   simp only [evR, List.map_toArray, List.map_cons, List.map_nil, e27]
   refine (rlFirst_any (HR2.out.ext he).hl HNE.out).mono ?_
   rintro e w2 ⟨rfl, rfl⟩
   exact ⟨_, rfl, Ext.refl _, rfl⟩
  refine tele_val rfl (.bool true) (fun ρ w' hk => by obtain ⟨_, _, hg, -⟩ := hk; have eg : ρ 18 = (.bool false) := hg; simp [wantedR, Region.wanted, asBoolR, eg]) ?_ ?_
  ·rintro ρ w' he ⟨h23, h28, -⟩
   have e23 : ρ 23 = (.int .i64 (l.first : Int)) := h23
   have e28 : ρ 28 = (.int .i64 (l.first : Int)) := h28
   simp [execOp, evR, e23, e28, go_sem]
  refine tele_val rfl ((.bool true)) (fun ρ w' hk => by obtain ⟨_, hg, -⟩ := hk; have eg : ρ 18 = (.bool false) := hg; simp [wantedR, Region.wanted, asBoolR, eg]) ?_ ?_
  ·rintro ρ w' he ⟨h29, -⟩
   have e29 : ρ 29 = (.bool true) := h29
   simp [execOp, evR, e29]
  refine tele_val rfl ((.pointer (some ⟨bb, 0, none⟩))) (fun ρ w' hk => by obtain ⟨_, hg, -⟩ := hk; have eg : ρ 30 = (.bool true) := hg; simp [wantedR, Region.wanted, asBoolR, eg]) ?_ ?_
  ·rintro ρ w' he ⟨h0, -⟩
   have e0 : ρ 0 = (.pointer (some ⟨bb, 0, none⟩)) := h0
   simp [execOp, evR, e0]
  refine tele_val rfl (.pointer (some ⟨bb, 0, none⟩)) (fun ρ w' hk => by obtain ⟨_, hg, -⟩ := hk; have eg : ρ 30 = (.bool true) := hg; simp [wantedR, Region.wanted, asBoolR, eg]) ?_ ?_
  ·rintro ρ w' he ⟨h31, -⟩
   have e31 : ρ 31 = (.pointer (some ⟨bb, 0, none⟩)) := h31
   simp [execOp, evR, e31, go_sem]
  refine tele_val rfl (.pointer (some ⟨bb, 1, none⟩)) (fun ρ w' hk => by obtain ⟨_, hg, -⟩ := hk; have eg : ρ 30 = (.bool true) := hg; simp [wantedR, Region.wanted, asBoolR, eg]) ?_ ?_
  ·rintro ρ w' he ⟨h32, -⟩
   have e32 : ρ 32 = (.pointer (some ⟨bb, 0, none⟩)) := h32
   simp [execOp, evR, e32, go_sem]
  refine tele_val rfl (.pointer (some ⟨bl, 0, none⟩)) (fun ρ w' hk => by obtain ⟨_, hg, -⟩ := hk; have eg : ρ 30 = (.bool true) := hg; simp [wantedR, Region.wanted, asBoolR, eg]) ?_ ?_
  ·rintro ρ w' he ⟨h33, -⟩
   have e33 : ρ 33 = (.pointer (some ⟨bb, 1, none⟩)) := h33
   have c := (HB.out.ext he).cell (i := 1) rfl
   simp [execOp, evR, e33, c, go_sem]
  refine tele_call rfl rfl Tryz.func15 (by kernel_rfl) (isV (.int .i64 (l.next : Int))) (fun ρ w' hk => by obtain ⟨_, hg, -⟩ := hk; have eg : ρ 30 = (.bool true) := hg; simp [wantedR, Region.wanted, asBoolR, eg]) ?_ ?_
  ·rintro ρ w' he ⟨h34, -⟩
   have e34 : ρ 34 = (.pointer (some ⟨bl, 0, none⟩)) := h34
   simp only [evR, List.map_toArray, List.map_cons, List.map_nil, e34]
   refine (wNext_any (HD1.out.ext he) (HL1.out.ext he) HNE.out HNX.out).mono ?_
   rintro e w2 ⟨rfl, hx2⟩
   exact ⟨_, rfl, hx2, rfl⟩
  refine tele_val rfl ((.pointer (some ⟨bb, 0, none⟩))) (fun ρ w' hk => by obtain ⟨_, hg, -⟩ := hk; have eg : ρ 30 = (.bool true) := hg; simp [wantedR, Region.wanted, asBoolR, eg]) ?_ ?_
  ·rintro ρ w' he ⟨h0, -⟩
   have e0 : ρ 0 = (.pointer (some ⟨bb, 0, none⟩)) := h0
   simp [execOp, evR, e0]
  refine tele_val rfl (.pointer (some ⟨bb, 0, none⟩)) (fun ρ w' hk => by obtain ⟨_, hg, -⟩ := hk; have eg : ρ 30 = (.bool true) := hg; simp [wantedR, Region.wanted, asBoolR, eg]) ?_ ?_
  ·rintro ρ w' he ⟨h36, -⟩
   have e36 : ρ 36 = (.pointer (some ⟨bb, 0, none⟩)) := h36
   simp [execOp, evR, e36, go_sem]
  refine tele_val rfl (.pointer (some ⟨bb, 3, none⟩)) (fun ρ w' hk => by obtain ⟨_, hg, -⟩ := hk; have eg : ρ 30 = (.bool true) := hg; simp [wantedR, Region.wanted, asBoolR, eg]) ?_ ?_
  ·rintro ρ w' he ⟨h37, -⟩
   have e37 : ρ 37 = (.pointer (some ⟨bb, 0, none⟩)) := h37
   simp [execOp, evR, e37, go_sem]
  refine tele_val rfl (.pointer (some ⟨rl, 0, none⟩)) (fun ρ w' hk => by obtain ⟨_, hg, -⟩ := hk; have eg : ρ 30 = (.bool true) := hg; simp [wantedR, Region.wanted, asBoolR, eg]) ?_ ?_
  ·rintro ρ w' he ⟨h38, -⟩
   have e38 : ρ 38 = (.pointer (some ⟨bb, 3, none⟩)) := h38
   have c := (HB.out.ext he).cell (i := 3) rfl
   simp [execOp, evR, e38, c, go_sem]
  refine tele_call rfl rfl Tryz.func22 (by kernel_rfl) (isV (.int .i64 (l.next : Int))) (fun ρ w' hk => by obtain ⟨_, hg, -⟩ := hk; have eg : ρ 30 = (.bool true) := hg; simp [wantedR, Region.wanted, asBoolR, eg]) ?_ ?_
  ·rintro ρ w' he ⟨h39, -⟩
   have e39 : ρ 39 = (.pointer (some ⟨rl, 0, none⟩)) := h39
   simp only [evR, List.map_toArray, List.map_cons, List.map_nil, e39]
   refine (rlNext_any (HR2.out.ext he).hl HNE.out HNX.out).mono ?_
   rintro e w2 ⟨rfl, hx2⟩
   exact ⟨_, rfl, hx2, rfl⟩
  refine tele_val rfl (.bool true) (fun ρ w' hk => by obtain ⟨_, _, hg, -⟩ := hk; have eg : ρ 30 = (.bool true) := hg; simp [wantedR, Region.wanted, asBoolR, eg]) ?_ ?_
  ·rintro ρ w' he ⟨h35, h40, -⟩
   have e35 : ρ 35 = (.int .i64 (l.next : Int)) := h35
   have e40 : ρ 40 = (.int .i64 (l.next : Int)) := h40
   simp [execOp, evR, e35, e40, go_sem]
  refine tele_val rfl (.bool true) (fun ρ w' hk => by obtain ⟨_, _, hg, -⟩ := hk; have eg : ρ 18 = (.bool false) := hg; simp [wantedR, Region.wanted, asBoolR, eg]) ?_ ?_
  ·rintro ρ w' he ⟨h30, h41, -⟩
   have e30 : ρ 30 = (.bool true) := h30
   have e41 : ρ 41 = (.bool true) := h41
   simp [execOp, evR, e30, e41, go_sem]
  refine tele_val rfl ((.bool true)) (fun ρ w' hk => by obtain ⟨_, hg, -⟩ := hk; have eg : ρ 18 = (.bool false) := hg; simp [wantedR, Region.wanted, asBoolR, eg]) ?_ ?_
  ·rintro ρ w' he ⟨h42, -⟩
   have e42 : ρ 42 = (.bool true) := h42
   simp [execOp, evR, e42]
  refine tele_val rfl ((.pointer (some ⟨bb, 0, none⟩))) (fun ρ w' hk => by obtain ⟨_, hg, -⟩ := hk; have eg : ρ 43 = (.bool true) := hg; simp [wantedR, Region.wanted, asBoolR, eg]) ?_ ?_
  ·rintro ρ w' he ⟨h0, -⟩
   have e0 : ρ 0 = (.pointer (some ⟨bb, 0, none⟩)) := h0
   simp [execOp, evR, e0]
  refine tele_val rfl (.pointer (some ⟨bb, 0, none⟩)) (fun ρ w' hk => by obtain ⟨_, hg, -⟩ := hk; have eg : ρ 43 = (.bool true) := hg; simp [wantedR, Region.wanted, asBoolR, eg]) ?_ ?_
  ·rintro ρ w' he ⟨h44, -⟩
   have e44 : ρ 44 = (.pointer (some ⟨bb, 0, none⟩)) := h44
   simp [execOp, evR, e44, go_sem]
  refine tele_val rfl (.pointer (some ⟨bb, 1, none⟩)) (fun ρ w' hk => by obtain ⟨_, hg, -⟩ := hk; have eg : ρ 43 = (.bool true) := hg; simp [wantedR, Region.wanted, asBoolR, eg]) ?_ ?_
  ·rintro ρ w' he ⟨h45, -⟩
   have e45 : ρ 45 = (.pointer (some ⟨bb, 0, none⟩)) := h45
   simp [execOp, evR, e45, go_sem]
  refine tele_val rfl (.pointer (some ⟨bl, 0, none⟩)) (fun ρ w' hk => by obtain ⟨_, hg, -⟩ := hk; have eg : ρ 43 = (.bool true) := hg; simp [wantedR, Region.wanted, asBoolR, eg]) ?_ ?_
  ·rintro ρ w' he ⟨h46, -⟩
   have e46 : ρ 46 = (.pointer (some ⟨bb, 1, none⟩)) := h46
   have c := (HB.out.ext he).cell (i := 1) rfl
   simp [execOp, evR, e46, c, go_sem]
  refine tele_call rfl rfl Tryz.func23 (by kernel_rfl) (isV (.int .i64 (l.sure : Int))) (fun ρ w' hk => by obtain ⟨_, hg, -⟩ := hk; have eg : ρ 43 = (.bool true) := hg; simp [wantedR, Region.wanted, asBoolR, eg]) ?_ ?_
  ·rintro ρ w' he ⟨h47, -⟩
   have e47 : ρ 47 = (.pointer (some ⟨bl, 0, none⟩)) := h47
   simp only [evR, List.map_toArray, List.map_cons, List.map_nil, e47]
   refine (wSure_any (HD1.out.ext he) (HL1.out.ext he) HNE.out HNX.out).mono ?_
   rintro e w2 ⟨rfl, hx2⟩
   exact ⟨_, rfl, hx2, rfl⟩
  refine tele_val rfl ((.pointer (some ⟨bb, 0, none⟩))) (fun ρ w' hk => by obtain ⟨_, hg, -⟩ := hk; have eg : ρ 43 = (.bool true) := hg; simp [wantedR, Region.wanted, asBoolR, eg]) ?_ ?_
  ·rintro ρ w' he ⟨h0, -⟩
   have e0 : ρ 0 = (.pointer (some ⟨bb, 0, none⟩)) := h0
   simp [execOp, evR, e0]
  refine tele_val rfl (.pointer (some ⟨bb, 0, none⟩)) (fun ρ w' hk => by obtain ⟨_, hg, -⟩ := hk; have eg : ρ 43 = (.bool true) := hg; simp [wantedR, Region.wanted, asBoolR, eg]) ?_ ?_
  ·rintro ρ w' he ⟨h49, -⟩
   have e49 : ρ 49 = (.pointer (some ⟨bb, 0, none⟩)) := h49
   simp [execOp, evR, e49, go_sem]
  refine tele_val rfl (.pointer (some ⟨bb, 3, none⟩)) (fun ρ w' hk => by obtain ⟨_, hg, -⟩ := hk; have eg : ρ 43 = (.bool true) := hg; simp [wantedR, Region.wanted, asBoolR, eg]) ?_ ?_
  ·rintro ρ w' he ⟨h50, -⟩
   have e50 : ρ 50 = (.pointer (some ⟨bb, 0, none⟩)) := h50
   simp [execOp, evR, e50, go_sem]
  refine tele_val rfl (.pointer (some ⟨rl, 0, none⟩)) (fun ρ w' hk => by obtain ⟨_, hg, -⟩ := hk; have eg : ρ 43 = (.bool true) := hg; simp [wantedR, Region.wanted, asBoolR, eg]) ?_ ?_
  ·rintro ρ w' he ⟨h51, -⟩
   have e51 : ρ 51 = (.pointer (some ⟨bb, 3, none⟩)) := h51
   have c := (HB.out.ext he).cell (i := 3) rfl
   simp [execOp, evR, e51, c, go_sem]
  refine tele_val rfl (.pointer (some ⟨rl, 0, none⟩)) (fun ρ w' hk => by obtain ⟨_, hg, -⟩ := hk; have eg : ρ 43 = (.bool true) := hg; simp [wantedR, Region.wanted, asBoolR, eg]) ?_ ?_
  ·rintro ρ w' he ⟨h52, -⟩
   have e52 : ρ 52 = (.pointer (some ⟨rl, 0, none⟩)) := h52
   simp [execOp, evR, e52, go_sem]
  refine tele_val rfl (.pointer (some ⟨rl, 3, none⟩)) (fun ρ w' hk => by obtain ⟨_, hg, -⟩ := hk; have eg : ρ 43 = (.bool true) := hg; simp [wantedR, Region.wanted, asBoolR, eg]) ?_ ?_
  ·rintro ρ w' he ⟨h53, -⟩
   have e53 : ρ 53 = (.pointer (some ⟨rl, 0, none⟩)) := h53
   simp [execOp, evR, e53, go_sem]
  refine tele_val rfl (.int .i64 (l.sure : Int)) (fun ρ w' hk => by obtain ⟨_, hg, -⟩ := hk; have eg : ρ 43 = (.bool true) := hg; simp [wantedR, Region.wanted, asBoolR, eg]) ?_ ?_
  ·rintro ρ w' he ⟨h54, -⟩
   have e54 : ρ 54 = (.pointer (some ⟨rl, 3, none⟩)) := h54
   have c := ((HR2.out.ext he).hl.str.blk).cell (i := 3) rfl
   simp [execOp, evR, e54, c, go_sem]
  refine tele_val rfl (.bool true) (fun ρ w' hk => by obtain ⟨_, _, hg, -⟩ := hk; have eg : ρ 43 = (.bool true) := hg; simp [wantedR, Region.wanted, asBoolR, eg]) ?_ ?_
  ·rintro ρ w' he ⟨h48, h55, -⟩
   have e48 : ρ 48 = (.int .i64 (l.sure : Int)) := h48
   have e55 : ρ 55 = (.int .i64 (l.sure : Int)) := h55
   simp [execOp, evR, e48, e55, go_sem]
  refine tele_val rfl (.bool true) (fun ρ w' hk => by obtain ⟨_, _, hg, -⟩ := hk; have eg : ρ 18 = (.bool false) := hg; simp [wantedR, Region.wanted, asBoolR, eg]) ?_ ?_
  ·rintro ρ w' he ⟨h43, h56, -⟩
   have e43 : ρ 43 = (.bool true) := h43
   have e56 : ρ 56 = (.bool true) := h56
   simp [execOp, evR, e43, e56, go_sem]
  refine tele_val rfl ((.bool true)) (fun ρ w' hk => by obtain ⟨_, hg, -⟩ := hk; have eg : ρ 18 = (.bool false) := hg; simp [wantedR, Region.wanted, asBoolR, eg]) ?_ ?_
  ·rintro ρ w' he ⟨h57, -⟩
   have e57 : ρ 57 = (.bool true) := h57
   simp [execOp, evR, e57]
  refine tele_val rfl ((.pointer (some ⟨bb, 0, none⟩))) (fun ρ w' hk => by obtain ⟨_, hg, -⟩ := hk; have eg : ρ 58 = (.bool true) := hg; simp [wantedR, Region.wanted, asBoolR, eg]) ?_ ?_
  ·rintro ρ w' he ⟨h0, -⟩
   have e0 : ρ 0 = (.pointer (some ⟨bb, 0, none⟩)) := h0
   simp [execOp, evR, e0]
  refine tele_val rfl (.pointer (some ⟨bb, 0, none⟩)) (fun ρ w' hk => by obtain ⟨_, hg, -⟩ := hk; have eg : ρ 58 = (.bool true) := hg; simp [wantedR, Region.wanted, asBoolR, eg]) ?_ ?_
  ·rintro ρ w' he ⟨h59, -⟩
   have e59 : ρ 59 = (.pointer (some ⟨bb, 0, none⟩)) := h59
   simp [execOp, evR, e59, go_sem]
  refine tele_val rfl (.pointer (some ⟨bb, 1, none⟩)) (fun ρ w' hk => by obtain ⟨_, hg, -⟩ := hk; have eg : ρ 58 = (.bool true) := hg; simp [wantedR, Region.wanted, asBoolR, eg]) ?_ ?_
  ·rintro ρ w' he ⟨h60, -⟩
   have e60 : ρ 60 = (.pointer (some ⟨bb, 0, none⟩)) := h60
   simp [execOp, evR, e60, go_sem]
  refine tele_val rfl (.pointer (some ⟨bl, 0, none⟩)) (fun ρ w' hk => by obtain ⟨_, hg, -⟩ := hk; have eg : ρ 58 = (.bool true) := hg; simp [wantedR, Region.wanted, asBoolR, eg]) ?_ ?_
  ·rintro ρ w' he ⟨h61, -⟩
   have e61 : ρ 61 = (.pointer (some ⟨bb, 1, none⟩)) := h61
   have c := (HB.out.ext he).cell (i := 1) rfl
   simp [execOp, evR, e61, c, go_sem]
  refine tele_call rfl rfl Tryz.func24 (by kernel_rfl) (isV (.bool (decide (wFault d l = 0)))) (fun ρ w' hk => by obtain ⟨_, hg, -⟩ := hk; have eg : ρ 58 = (.bool true) := hg; simp [wantedR, Region.wanted, asBoolR, eg]) ?_ ?_
  ·rintro ρ w' he ⟨h62, -⟩
   have e62 : ρ 62 = (.pointer (some ⟨bl, 0, none⟩)) := h62
   simp only [evR, List.map_toArray, List.map_cons, List.map_nil, e62]
   refine (wOn_any (HD1.out.ext he) (HL1.out.ext he)).mono ?_
   rintro e w2 ⟨rfl, hx2⟩
   exact ⟨_, rfl, hx2, rfl⟩
  refine tele_val rfl ((.pointer (some ⟨bb, 0, none⟩))) (fun ρ w' hk => by obtain ⟨_, hg, -⟩ := hk; have eg : ρ 58 = (.bool true) := hg; simp [wantedR, Region.wanted, asBoolR, eg]) ?_ ?_
  ·rintro ρ w' he ⟨h0, -⟩
   have e0 : ρ 0 = (.pointer (some ⟨bb, 0, none⟩)) := h0
   simp [execOp, evR, e0]
  refine tele_val rfl (.pointer (some ⟨bb, 0, none⟩)) (fun ρ w' hk => by obtain ⟨_, hg, -⟩ := hk; have eg : ρ 58 = (.bool true) := hg; simp [wantedR, Region.wanted, asBoolR, eg]) ?_ ?_
  ·rintro ρ w' he ⟨h64, -⟩
   have e64 : ρ 64 = (.pointer (some ⟨bb, 0, none⟩)) := h64
   simp [execOp, evR, e64, go_sem]
  refine tele_val rfl (.pointer (some ⟨bb, 3, none⟩)) (fun ρ w' hk => by obtain ⟨_, hg, -⟩ := hk; have eg : ρ 58 = (.bool true) := hg; simp [wantedR, Region.wanted, asBoolR, eg]) ?_ ?_
  ·rintro ρ w' he ⟨h65, -⟩
   have e65 : ρ 65 = (.pointer (some ⟨bb, 0, none⟩)) := h65
   simp [execOp, evR, e65, go_sem]
  refine tele_val rfl (.pointer (some ⟨rl, 0, none⟩)) (fun ρ w' hk => by obtain ⟨_, hg, -⟩ := hk; have eg : ρ 58 = (.bool true) := hg; simp [wantedR, Region.wanted, asBoolR, eg]) ?_ ?_
  ·rintro ρ w' he ⟨h66, -⟩
   have e66 : ρ 66 = (.pointer (some ⟨bb, 3, none⟩)) := h66
   have c := (HB.out.ext he).cell (i := 3) rfl
   simp [execOp, evR, e66, c, go_sem]
  refine tele_call rfl rfl Tryz.func25 (by kernel_rfl) (isV (.bool (decide (wFault d l = 0)))) (fun ρ w' hk => by obtain ⟨_, hg, -⟩ := hk; have eg : ρ 58 = (.bool true) := hg; simp [wantedR, Region.wanted, asBoolR, eg]) ?_ ?_
  ·rintro ρ w' he ⟨h67, -⟩
   have e67 : ρ 67 = (.pointer (some ⟨rl, 0, none⟩)) := h67
   simp only [evR, List.map_toArray, List.map_cons, List.map_nil, e67]
   refine (rlOn_any (HR2.out.ext he).hd (HR2.out.ext he).hl).mono ?_
   rintro e w2 ⟨rfl, hx2⟩
   exact ⟨_, rfl, hx2, rfl⟩
  refine tele_val rfl (.bool true) (fun ρ w' hk => by obtain ⟨_, _, hg, -⟩ := hk; have eg : ρ 58 = (.bool true) := hg; simp [wantedR, Region.wanted, asBoolR, eg]) ?_ ?_
  ·rintro ρ w' he ⟨h63, h68, -⟩
   have e63 : ρ 63 = (.bool (decide (wFault d l = 0))) := h63
   have e68 : ρ 68 = (.bool (decide (wFault d l = 0))) := h68
   simp [execOp, evR, e63, e68, go_sem]
  refine tele_val rfl (.bool true) (fun ρ w' hk => by obtain ⟨_, _, hg, -⟩ := hk; have eg : ρ 18 = (.bool false) := hg; simp [wantedR, Region.wanted, asBoolR, eg]) ?_ ?_
  ·rintro ρ w' he ⟨h58, h69, -⟩
   have e58 : ρ 58 = (.bool true) := h58
   have e69 : ρ 69 = (.bool true) := h69
   simp [execOp, evR, e58, e69, go_sem]
  refine tele_val rfl (.bool true) (fun _ _ _ => rfl) ?_ ?_
  ·rintro ρ w' he ⟨h18, h70, -⟩
   have e18 : ρ 18 = (.bool false) := h18
   have e70 : ρ 70 = (.bool true) := h70
   simp [execOp, evR, e18, e70, go_sem]
  refine tele_move rfl (.inr rfl) rfl (isV (.bool true)) (fun ρ w' h => h) ?_
  refine tele_nil ?_
  rintro ρ w' hext ⟨f2, f71, f70, f69, f68, f67, f66, f65, f64, f63, f62, f61, f60, f59, f58, f57, f56, f55, f54, f53, f52, f51, f50, f49, f48, f47, f46, f45, f44, f43, f42, f41, f40, f39, f38, f37, f36, f35, f34, f33, f32, f31, f30, f29, f28, f27, f26, f25, f24, f23, f22, f21, f20, f19, f18, f17, f16, f15, f14, f13, -⟩
  replace f13 : ρ 13 = (.pointer (some ⟨bb, 0, none⟩)) := f13
  replace f14 : ρ 14 = (.pointer (some ⟨bb, 0, none⟩)) := f14
  replace f15 : ρ 15 = (.pointer (some ⟨bb, 3, none⟩)) := f15
  replace f16 : ρ 16 = (.pointer (some ⟨rl, 0, none⟩)) := f16
  replace f17 : ρ 17 = (.bool false) := f17
  replace f18 : ρ 18 = (.bool false) := f18
  replace f19 : ρ 19 = (.pointer (some ⟨bb, 0, none⟩)) := f19
  replace f20 : ρ 20 = (.pointer (some ⟨bb, 0, none⟩)) := f20
  replace f21 : ρ 21 = (.pointer (some ⟨bb, 1, none⟩)) := f21
  replace f22 : ρ 22 = (.pointer (some ⟨bl, 0, none⟩)) := f22
  replace f23 : ρ 23 = (.int .i64 (l.first : Int)) := f23
  replace f24 : ρ 24 = (.pointer (some ⟨bb, 0, none⟩)) := f24
  replace f25 : ρ 25 = (.pointer (some ⟨bb, 0, none⟩)) := f25
  replace f26 : ρ 26 = (.pointer (some ⟨bb, 3, none⟩)) := f26
  replace f27 : ρ 27 = (.pointer (some ⟨rl, 0, none⟩)) := f27
  replace f28 : ρ 28 = (.int .i64 (l.first : Int)) := f28
  replace f29 : ρ 29 = (.bool true) := f29
  replace f30 : ρ 30 = (.bool true) := f30
  replace f31 : ρ 31 = (.pointer (some ⟨bb, 0, none⟩)) := f31
  replace f32 : ρ 32 = (.pointer (some ⟨bb, 0, none⟩)) := f32
  replace f33 : ρ 33 = (.pointer (some ⟨bb, 1, none⟩)) := f33
  replace f34 : ρ 34 = (.pointer (some ⟨bl, 0, none⟩)) := f34
  replace f35 : ρ 35 = (.int .i64 (l.next : Int)) := f35
  replace f36 : ρ 36 = (.pointer (some ⟨bb, 0, none⟩)) := f36
  replace f37 : ρ 37 = (.pointer (some ⟨bb, 0, none⟩)) := f37
  replace f38 : ρ 38 = (.pointer (some ⟨bb, 3, none⟩)) := f38
  replace f39 : ρ 39 = (.pointer (some ⟨rl, 0, none⟩)) := f39
  replace f40 : ρ 40 = (.int .i64 (l.next : Int)) := f40
  replace f41 : ρ 41 = (.bool true) := f41
  replace f42 : ρ 42 = (.bool true) := f42
  replace f43 : ρ 43 = (.bool true) := f43
  replace f44 : ρ 44 = (.pointer (some ⟨bb, 0, none⟩)) := f44
  replace f45 : ρ 45 = (.pointer (some ⟨bb, 0, none⟩)) := f45
  replace f46 : ρ 46 = (.pointer (some ⟨bb, 1, none⟩)) := f46
  replace f47 : ρ 47 = (.pointer (some ⟨bl, 0, none⟩)) := f47
  replace f48 : ρ 48 = (.int .i64 (l.sure : Int)) := f48
  replace f49 : ρ 49 = (.pointer (some ⟨bb, 0, none⟩)) := f49
  replace f50 : ρ 50 = (.pointer (some ⟨bb, 0, none⟩)) := f50
  replace f51 : ρ 51 = (.pointer (some ⟨bb, 3, none⟩)) := f51
  replace f52 : ρ 52 = (.pointer (some ⟨rl, 0, none⟩)) := f52
  replace f53 : ρ 53 = (.pointer (some ⟨rl, 0, none⟩)) := f53
  replace f54 : ρ 54 = (.pointer (some ⟨rl, 3, none⟩)) := f54
  replace f55 : ρ 55 = (.int .i64 (l.sure : Int)) := f55
  replace f56 : ρ 56 = (.bool true) := f56
  replace f57 : ρ 57 = (.bool true) := f57
  replace f58 : ρ 58 = (.bool true) := f58
  replace f59 : ρ 59 = (.pointer (some ⟨bb, 0, none⟩)) := f59
  replace f60 : ρ 60 = (.pointer (some ⟨bb, 0, none⟩)) := f60
  replace f61 : ρ 61 = (.pointer (some ⟨bb, 1, none⟩)) := f61
  replace f62 : ρ 62 = (.pointer (some ⟨bl, 0, none⟩)) := f62
  replace f63 : ρ 63 = (.bool (decide (wFault d l = 0))) := f63
  replace f64 : ρ 64 = (.pointer (some ⟨bb, 0, none⟩)) := f64
  replace f65 : ρ 65 = (.pointer (some ⟨bb, 0, none⟩)) := f65
  replace f66 : ρ 66 = (.pointer (some ⟨bb, 3, none⟩)) := f66
  replace f67 : ρ 67 = (.pointer (some ⟨rl, 0, none⟩)) := f67
  replace f68 : ρ 68 = (.bool (decide (wFault d l = 0))) := f68
  replace f69 : ρ 69 = (.bool true) := f69
  replace f70 : ρ 70 = (.bool true) := f70
  replace f71 : ρ 71 = (.bool true) := f71
  replace f2 : ρ 2 = (.bool true) := f2
  simp only [puts, Act.put, List.setIfInBounds_toArray, List.set_cons_zero, List.set_cons_succ]
  rw [f2]
  go_wp2_with fail
  go_ret
  exact ⟨rfl, HX1.out.trans hext⟩
end Go.Proofs.YtagghghoimpofaaGreatDoor

/-
 Layer 16: what is done to both logs.
-/
namespace Go.Proofs.YtagghghoimpofaaGreatDoor
open Go Go.RowKit Mono
set_option linter.unusedVariables false
set_option linter.unusedSimpArgs false
set_option maxRecDepth 100000
set_option maxHeartbeats 4000000

/-- What an act does to a disk. -/
def fAct (d : Dk) (a : WAct) : Dk :=
 if a.kind = 4 then (dArm d a.n a.keep).1 else if a.kind = 5 then (dFail d a.keep).1 else if a.kind = 7 then (dAppend d a.name a.data).1
 else if a.kind = 8 then (dDrop d a.name).1 else if a.kind = 9 then (dMake d a.name).1 else d
theorem Cont.unis {F1 F2 F1' F2' : Nat → Prop} {W w : World} {b : Nat} {T : TypeId} {C : List Value} (c : Cont (uni F1 F2) W (uni F1' F2') w) (h : BlkT W b T C) (hn : ¬ uni F1 F2 b) : BlkT w b T C ∧ ¬ uni F1' F2' b := c.blk h hn
theorem bfiles_any {W0 W : World} {bb bd br c0 : Nat} {F1 F2 : Nat → Prop} {d : Dk} {ol : Option Lg} {L R L0 R0 : Value} {size : Int} (h : WP W0 W bd br F1 F2 d ol L d ol R)
  (hb : BlkT W bb 31 [.pointer (some ⟨bd, 0, none⟩), L0, .pointer (some ⟨br, 0, none⟩), R0, .int .i64 size]) (hn : ¬ uni F1 F2 bb) (hok : d.Ok) (hsc : d.SmallC c0) (hc0 : c0 + 10 ≤ 1000000000) (kind : Int) (name data : List UInt8) (nn keep : Int) {va : Value} (ha : Bs W0 va data) (hnl : name.length ≤ maxLen) (hdl : data.length ≤ 20000) :
  Calls Tryz.prog 26 #[.pointer (some ⟨bb, 0, none⟩), .agg #[.int .i64 kind, va, strV name, .int .i64 nn, .int .i64 keep]] W fun e w' => e = .returned (.bool true) ∧ ∃ F1' F2', WP W0 w' bd br F1' F2' (fAct d ⟨kind, name, data, nn, keep⟩) ol L (fAct d ⟨kind, name, data, nn, keep⟩) ol R ∧ Cont (uni F1 F2) W (uni F1' F2') w' := by
 obtain ⟨A2, c2, rfl, a1, a2, -, -⟩ := ha.open_
 have HA := Lib.hid ha
 have HNL := Lib.hid hnl
 have HOK := Lib.hid hok
 have HSM := Lib.hid (hsc.small (by omega))
 obtain ⟨o, ho⟩ : ∃ o, o = Obj.cells #[.int .i64 kind, .slice A2 data.length c2, strV name, .int .i64 nn, .int .i64 keep] 36 := ⟨_, rfl⟩
 obtain ⟨nb, hnb⟩ : ∃ n, n = W.heap.size := ⟨_, rfl⟩
 have hbx := BlkT.new W #[.int .i64 kind, .slice A2 data.length c2, strV name, .int .i64 nn, .int .i64 keep] 36
 obtain ⟨wb, hwb⟩ : ∃ w, w = W.alloc (.cells #[.int .i64 kind, .slice A2 data.length c2, strV name, .int .i64 nn, .int .i64 keep] 36) := ⟨_, rfl⟩
 have hxb : Ext W wb := by rw [hwb]; exact ext_alloc _ _
 rw [← hwb, ← hnb] at hbx
 have HXB := Lib.hid hxb
 have HP := Lib.hid (h.ext hxb)
 have HB := Lib.hid (hb.ext hxb)
 have HBX := Lib.hid hbx
 have HNB := Lib.hid (show ¬ (uni F1 F2 bb ∨ wb.heap.size ≤ bb) from fun hq => hq.elim hn (fun h => Nat.not_lt.2 h (hb.ext hxb).lt))
 have HNX := Lib.hid (show ¬ (uni F1 F2 nb ∨ wb.heap.size ≤ nb) from fun hq => hq.elim (fun h1 => by rw [hnb] at h1; rcases h1 with h1 | h1; exact Nat.lt_irrefl _ (h.s1.lt _ h1); exact Nat.lt_irrefl _ (h.s2.lt _ h1)) (fun h => Nat.not_lt.2 h hbx.lt))
 have HC := Lib.hid (show Cont (uni F1 F2) W (uni F1 F2) wb from (Cont.refl fun _ h => h).ext hxb)
 have HE := Lib.hid hwb
 have HNBE := Lib.hid hnb
 clear hbx hxb hnb h hb hn hok hsc ha hnl hwb ho
 by_cases h4 : kind = 4
 ·subst h4
  have HF := Lib.hid (show fAct d ⟨4, name, data, nn, keep⟩ = (dArm d nn keep).1 by unfold fAct; rw [if_pos rfl])
  go_enter Tryz.func26, Tryz.ntmps26
  go_upto_region 3 with (fail)
  rw [← HNBE.out, ← HE.out]
  refine wp_region_tok [false, false, false, false, false, false, false, false, true, false, false, false, false, false, false, false, false, true, false, false] (Kb (fun k => uni F1 F2 k ∨ wb.heap.size ≤ k)) (fun c w => if c < 1 then WP W0 w bd br F1 F2 d ol L d ol R ∧ Cont (uni F1 F2) wb (uni F1 F2) w else if c < 2 then ∃ F1', WP W0 w bd br F1' F2 (dArm d nn keep).1 ol L d ol R ∧ Cont (uni F1 F2) wb (uni F1' F2) w else ∃ F1' F2', WP W0 w bd br F1' F2' (dArm d nn keep).1 ol L (dArm d nn keep).1 ol R ∧ Cont (uni F1 F2) wb (uni F1' F2') w) 2 (by kernel_rfl) (by kernel_rfl) (by kernel_rfl) (by kernel_rfl) (preKb' _) (Kb.of_ext (ext_drew wb)) ⟨HP.out.ext (ext_drew wb), (Cont.refl fun _ h => h).ext (ext_drew wb)⟩ ?_
  refine tok_val rfl (.pointer (some ⟨bb, 0, none⟩)) (fun _ _ _ => rfl) ?_ ?_
  ·rintro ρ w' he ⟨h0, -⟩
   have e0 : ρ 0 = .pointer (some ⟨bb, 0, none⟩) := h0
   simp [execOp, evR, e0, go_sem]
  refine tok_val rfl (.pointer (some ⟨bb, 0, none⟩)) (fun _ _ _ => rfl) ?_ ?_
  ·rintro ρ w' he ⟨h9, -⟩
   have e9 : ρ 9 = .pointer (some ⟨bb, 0, none⟩) := h9
   simp [execOp, evR, e9, go_sem]
  refine tok_val rfl (.pointer (some ⟨bb, 0, none⟩)) (fun _ _ _ => rfl) ?_ ?_
  ·rintro ρ w' he ⟨h10, -⟩
   have e10 : ρ 10 = .pointer (some ⟨bb, 0, none⟩) := h10
   simp [execOp, evR, e10, go_sem]
  refine tok_val rfl (.pointer (some ⟨bd, 0, none⟩)) (fun _ _ _ => rfl) ?_ ?_
  ·rintro ρ w' he ⟨h11, -⟩
   have e11 : ρ 11 = .pointer (some ⟨bb, 0, none⟩) := h11
   have c := (HB.out.kb he HNB.out).blk.cell (i := 0) rfl
   simp [execOp, evR, e11, c, go_sem]
  refine tok_val rfl (.pointer (some ⟨nb, 3, none⟩)) (fun _ _ _ => rfl) ?_ ?_
  ·rintro ρ w' he ⟨h3, -⟩
   have e3 : ρ 3 = .pointer (some ⟨nb, 0, none⟩) := h3
   simp [execOp, evR, e3, go_sem]
  refine tok_val rfl (.int .i64 nn) (fun _ _ _ => rfl) ?_ ?_
  ·rintro ρ w' he ⟨h13, -⟩
   have e13 : ρ 13 = .pointer (some ⟨nb, 3, none⟩) := h13
   have c := (HBX.out.kb he HNX.out).blk.cell (i := 3) rfl
   simp [execOp, evR, e13, c, go_sem]
  refine tok_val rfl (.pointer (some ⟨nb, 4, none⟩)) (fun _ _ _ => rfl) ?_ ?_
  ·rintro ρ w' he ⟨h3, -⟩
   have e3 : ρ 3 = .pointer (some ⟨nb, 0, none⟩) := h3
   simp [execOp, evR, e3, go_sem]
  refine tok_val rfl (.int .i64 keep) (fun _ _ _ => rfl) ?_ ?_
  ·rintro ρ w' he ⟨h15, -⟩
   have e15 : ρ 15 = .pointer (some ⟨nb, 4, none⟩) := h15
   have c := (HBX.out.kb he HNX.out).blk.cell (i := 4) rfl
   simp [execOp, evR, e15, c, go_sem]
  refine tok_call rfl rfl Tryz.func62 (by kernel_rfl) (fun v _ => v = .int .i64 ((dArm d nn keep).2 : Int)) (fun _ _ _ h _ => h) (fun _ _ _ => rfl) ?_ ?_
  ·rintro ρ w' he ht ⟨h12, h14, h16, -⟩
   have e12 : ρ 12 = .pointer (some ⟨bd, 0, none⟩) := h12
   have e14 : ρ 14 = .int .i64 nn := h14
   have e16 : ρ 16 = .int .i64 keep := h16
   simp only [evR, List.map_toArray, List.map_cons, List.map_nil, e12, e14, e16]
   have hp : WP W0 w' bd br F1 F2 d ol L d ol R ∧ Cont (uni F1 F2) wb (uni F1 F2) w' := ht
   have hz := hp.1.hx.size
   refine (hp.1.s1.call (x := dArm d nn keep) (fun bm pl ms hd => arm_post hd nn keep hz)).mono ?_
   rintro e w2 ⟨rfl, F1', hs, hc⟩
   exact ⟨_, rfl, hc.kb.mono fun _ h => .inl (.inl h), rfl, F1', hp.1.one hs hc, hp.2.trans hc.uni1⟩
  refine tok_val rfl (.pointer (some ⟨bb, 0, none⟩)) (fun _ _ _ => rfl) ?_ ?_
  ·rintro ρ w' he ⟨h0, -⟩
   have e0 : ρ 0 = .pointer (some ⟨bb, 0, none⟩) := h0
   simp [execOp, evR, e0, go_sem]
  refine tok_val rfl (.pointer (some ⟨bb, 0, none⟩)) (fun _ _ _ => rfl) ?_ ?_
  ·rintro ρ w' he ⟨h18, -⟩
   have e18 : ρ 18 = .pointer (some ⟨bb, 0, none⟩) := h18
   simp [execOp, evR, e18, go_sem]
  refine tok_val rfl (.pointer (some ⟨bb, 2, none⟩)) (fun _ _ _ => rfl) ?_ ?_
  ·rintro ρ w' he ⟨h19, -⟩
   have e19 : ρ 19 = .pointer (some ⟨bb, 0, none⟩) := h19
   simp [execOp, evR, e19, go_sem]
  refine tok_val rfl (.pointer (some ⟨br, 0, none⟩)) (fun _ _ _ => rfl) ?_ ?_
  ·rintro ρ w' he ⟨h20, -⟩
   have e20 : ρ 20 = .pointer (some ⟨bb, 2, none⟩) := h20
   have c := (HB.out.kb he HNB.out).blk.cell (i := 2) rfl
   simp [execOp, evR, e20, c, go_sem]
  refine tok_val rfl (.pointer (some ⟨nb, 3, none⟩)) (fun _ _ _ => rfl) ?_ ?_
  ·rintro ρ w' he ⟨h3, -⟩
   have e3 : ρ 3 = .pointer (some ⟨nb, 0, none⟩) := h3
   simp [execOp, evR, e3, go_sem]
  refine tok_val rfl (.int .i64 nn) (fun _ _ _ => rfl) ?_ ?_
  ·rintro ρ w' he ⟨h22, -⟩
   have e22 : ρ 22 = .pointer (some ⟨nb, 3, none⟩) := h22
   have c := (HBX.out.kb he HNX.out).blk.cell (i := 3) rfl
   simp [execOp, evR, e22, c, go_sem]
  refine tok_val rfl (.pointer (some ⟨nb, 4, none⟩)) (fun _ _ _ => rfl) ?_ ?_
  ·rintro ρ w' he ⟨h3, -⟩
   have e3 : ρ 3 = .pointer (some ⟨nb, 0, none⟩) := h3
   simp [execOp, evR, e3, go_sem]
  refine tok_val rfl (.int .i64 keep) (fun _ _ _ => rfl) ?_ ?_
  ·rintro ρ w' he ⟨h24, -⟩
   have e24 : ρ 24 = .pointer (some ⟨nb, 4, none⟩) := h24
   have c := (HBX.out.kb he HNX.out).blk.cell (i := 4) rfl
   simp [execOp, evR, e24, c, go_sem]
  refine tok_call rfl rfl Tryz.func63 (by kernel_rfl) (fun v _ => v = .int .i64 ((dArm d nn keep).2 : Int)) (fun _ _ _ h _ => h) (fun _ _ _ => rfl) ?_ ?_
  ·rintro ρ w' he ht ⟨h21, h23, h25, -⟩
   have e21 : ρ 21 = .pointer (some ⟨br, 0, none⟩) := h21
   have e23 : ρ 23 = .int .i64 nn := h23
   have e25 : ρ 25 = .int .i64 keep := h25
   simp only [evR, List.map_toArray, List.map_cons, List.map_nil, e21, e23, e25]
   have hp : ∃ F1', WP W0 w' bd br F1' F2 (dArm d nn keep).1 ol L d ol R ∧ Cont (uni F1 F2) wb (uni F1' F2) w' := ht
   obtain ⟨F1', hp1, hp2⟩ := hp
   have hz := hp1.hx.size
   refine (hp1.s2.call (x := dArm d nn keep) (fun sr hd hf => rarm_any hd nn keep)).mono ?_
   rintro e w2 ⟨rfl, F2', hs, hc⟩
   exact ⟨_, rfl, hc.kb.mono fun _ h => .inl (.inr h), rfl, F1', F2', hp1.two hs hc, hp2.trans hc.uni2⟩
  refine tok_val rfl (.bool true) (fun _ _ _ => rfl) ?_ ?_
  ·rintro ρ w' he ⟨h17, h26, -⟩
   have e17 : ρ 17 = .int .i64 ((dArm d nn keep).2 : Int) := h17
   have e26 : ρ 26 = .int .i64 ((dArm d nn keep).2 : Int) := h26
   simp [execOp, evR, e17, e26, go_sem]
  refine tok_val rfl (.bool true) (fun _ _ _ => rfl) ?_ ?_
  ·rintro ρ w' he ⟨h27, -⟩
   have e27 : ρ 27 = .bool true := h27
   simp [execOp, evR, e27, go_sem]
  refine tok_nil ?_
  rintro ρ w' hle htk ⟨f4, f27, f26, f25, f24, f23, f22, f21, f20, f19, f18, f17, f16, f15, f14, f13, f12, f11, f10, f9, -⟩ -
  replace f4 : ρ 4 = .bool true := f4
  simp only [puts, Act.put, List.setIfInBounds_toArray, List.set_cons_zero, List.set_cons_succ]
  rw [show ρ 4 = .bool true from f4]
  clear f4 f9 f10 f11 f12 f13 f14 f15 f16 f17 f18 f19 f20 f21 f22 f23 f24 f25 f26 f27
  go_wp2_with fail
  go_ret
  rw [HF.out]
  obtain ⟨F1', F2', h1, h2⟩ := (show ∃ F1' F2', WP W0 w' bd br F1' F2' (dArm d nn keep).1 ol L (dArm d nn keep).1 ol R ∧ Cont (uni F1 F2) wb (uni F1' F2') w' from htk)
  exact ⟨rfl, F1', F2', h1, HC.out.trans h2⟩
 by_cases h5 : kind = 5
 ·subst h5
  have HF := Lib.hid (show fAct d ⟨5, name, data, nn, keep⟩ = (dFail d keep).1 by unfold fAct; rw [if_neg (show ¬ ((5 : Int) = 4) by decide), if_pos rfl])
  go_enter Tryz.func26, Tryz.ntmps26
  go_upto_region 5 with (fail)
  rw [← HNBE.out, ← HE.out]
  refine wp_region_tok [false, false, false, false, false, false, true, false, false, false, false, false, false, true, false, false] (Kb (fun k => uni F1 F2 k ∨ wb.heap.size ≤ k)) (fun c w => if c < 1 then WP W0 w bd br F1 F2 d ol L d ol R ∧ Cont (uni F1 F2) wb (uni F1 F2) w else if c < 2 then ∃ F1', WP W0 w bd br F1' F2 (dFail d keep).1 ol L d ol R ∧ Cont (uni F1 F2) wb (uni F1' F2) w else ∃ F1' F2', WP W0 w bd br F1' F2' (dFail d keep).1 ol L (dFail d keep).1 ol R ∧ Cont (uni F1 F2) wb (uni F1' F2') w) 2 (by kernel_rfl) (by kernel_rfl) (by kernel_rfl) (by kernel_rfl) (preKb' _) (Kb.of_ext (ext_drew wb)) ⟨HP.out.ext (ext_drew wb), (Cont.refl fun _ h => h).ext (ext_drew wb)⟩ ?_
  refine tok_val rfl (.pointer (some ⟨bb, 0, none⟩)) (fun _ _ _ => rfl) ?_ ?_
  ·rintro ρ w' he ⟨h0, -⟩
   have e0 : ρ 0 = .pointer (some ⟨bb, 0, none⟩) := h0
   simp [execOp, evR, e0, go_sem]
  refine tok_val rfl (.pointer (some ⟨bb, 0, none⟩)) (fun _ _ _ => rfl) ?_ ?_
  ·rintro ρ w' he ⟨h30, -⟩
   have e30 : ρ 30 = .pointer (some ⟨bb, 0, none⟩) := h30
   simp [execOp, evR, e30, go_sem]
  refine tok_val rfl (.pointer (some ⟨bb, 0, none⟩)) (fun _ _ _ => rfl) ?_ ?_
  ·rintro ρ w' he ⟨h31, -⟩
   have e31 : ρ 31 = .pointer (some ⟨bb, 0, none⟩) := h31
   simp [execOp, evR, e31, go_sem]
  refine tok_val rfl (.pointer (some ⟨bd, 0, none⟩)) (fun _ _ _ => rfl) ?_ ?_
  ·rintro ρ w' he ⟨h32, -⟩
   have e32 : ρ 32 = .pointer (some ⟨bb, 0, none⟩) := h32
   have c := (HB.out.kb he HNB.out).blk.cell (i := 0) rfl
   simp [execOp, evR, e32, c, go_sem]
  refine tok_val rfl (.pointer (some ⟨nb, 4, none⟩)) (fun _ _ _ => rfl) ?_ ?_
  ·rintro ρ w' he ⟨h3, -⟩
   have e3 : ρ 3 = .pointer (some ⟨nb, 0, none⟩) := h3
   simp [execOp, evR, e3, go_sem]
  refine tok_val rfl (.int .i64 keep) (fun _ _ _ => rfl) ?_ ?_
  ·rintro ρ w' he ⟨h34, -⟩
   have e34 : ρ 34 = .pointer (some ⟨nb, 4, none⟩) := h34
   have c := (HBX.out.kb he HNX.out).blk.cell (i := 4) rfl
   simp [execOp, evR, e34, c, go_sem]
  refine tok_call rfl rfl Tryz.func64 (by kernel_rfl) (fun v _ => v = .int .i64 ((dFail d keep).2 : Int)) (fun _ _ _ h _ => h) (fun _ _ _ => rfl) ?_ ?_
  ·rintro ρ w' he ht ⟨h33, h35, -⟩
   have e33 : ρ 33 = .pointer (some ⟨bd, 0, none⟩) := h33
   have e35 : ρ 35 = .int .i64 keep := h35
   simp only [evR, List.map_toArray, List.map_cons, List.map_nil, e33, e35]
   have hp : WP W0 w' bd br F1 F2 d ol L d ol R ∧ Cont (uni F1 F2) wb (uni F1 F2) w' := ht
   have hz := hp.1.hx.size
   refine (hp.1.s1.call (x := dFail d keep) (fun bm pl ms hd => fail_any hd HOK.out HSM.out keep)).mono ?_
   rintro e w2 ⟨rfl, F1', hs, hc⟩
   exact ⟨_, rfl, hc.kb.mono fun _ h => .inl (.inl h), rfl, F1', hp.1.one hs hc, hp.2.trans hc.uni1⟩
  refine tok_val rfl (.pointer (some ⟨bb, 0, none⟩)) (fun _ _ _ => rfl) ?_ ?_
  ·rintro ρ w' he ⟨h0, -⟩
   have e0 : ρ 0 = .pointer (some ⟨bb, 0, none⟩) := h0
   simp [execOp, evR, e0, go_sem]
  refine tok_val rfl (.pointer (some ⟨bb, 0, none⟩)) (fun _ _ _ => rfl) ?_ ?_
  ·rintro ρ w' he ⟨h37, -⟩
   have e37 : ρ 37 = .pointer (some ⟨bb, 0, none⟩) := h37
   simp [execOp, evR, e37, go_sem]
  refine tok_val rfl (.pointer (some ⟨bb, 2, none⟩)) (fun _ _ _ => rfl) ?_ ?_
  ·rintro ρ w' he ⟨h38, -⟩
   have e38 : ρ 38 = .pointer (some ⟨bb, 0, none⟩) := h38
   simp [execOp, evR, e38, go_sem]
  refine tok_val rfl (.pointer (some ⟨br, 0, none⟩)) (fun _ _ _ => rfl) ?_ ?_
  ·rintro ρ w' he ⟨h39, -⟩
   have e39 : ρ 39 = .pointer (some ⟨bb, 2, none⟩) := h39
   have c := (HB.out.kb he HNB.out).blk.cell (i := 2) rfl
   simp [execOp, evR, e39, c, go_sem]
  refine tok_val rfl (.pointer (some ⟨nb, 4, none⟩)) (fun _ _ _ => rfl) ?_ ?_
  ·rintro ρ w' he ⟨h3, -⟩
   have e3 : ρ 3 = .pointer (some ⟨nb, 0, none⟩) := h3
   simp [execOp, evR, e3, go_sem]
  refine tok_val rfl (.int .i64 keep) (fun _ _ _ => rfl) ?_ ?_
  ·rintro ρ w' he ⟨h41, -⟩
   have e41 : ρ 41 = .pointer (some ⟨nb, 4, none⟩) := h41
   have c := (HBX.out.kb he HNX.out).blk.cell (i := 4) rfl
   simp [execOp, evR, e41, c, go_sem]
  refine tok_call rfl rfl Tryz.func65 (by kernel_rfl) (fun v _ => v = .int .i64 ((dFail d keep).2 : Int)) (fun _ _ _ h _ => h) (fun _ _ _ => rfl) ?_ ?_
  ·rintro ρ w' he ht ⟨h40, h42, -⟩
   have e40 : ρ 40 = .pointer (some ⟨br, 0, none⟩) := h40
   have e42 : ρ 42 = .int .i64 keep := h42
   simp only [evR, List.map_toArray, List.map_cons, List.map_nil, e40, e42]
   have hp : ∃ F1', WP W0 w' bd br F1' F2 (dFail d keep).1 ol L d ol R ∧ Cont (uni F1 F2) wb (uni F1' F2) w' := ht
   obtain ⟨F1', hp1, hp2⟩ := hp
   have hz := hp1.hx.size
   refine (hp1.s2.call (x := dFail d keep) (fun sr hd hf => rfail_any hd HOK.out HSM.out hz keep)).mono ?_
   rintro e w2 ⟨rfl, F2', hs, hc⟩
   exact ⟨_, rfl, hc.kb.mono fun _ h => .inl (.inr h), rfl, F1', F2', hp1.two hs hc, hp2.trans hc.uni2⟩
  refine tok_val rfl (.bool true) (fun _ _ _ => rfl) ?_ ?_
  ·rintro ρ w' he ⟨h36, h43, -⟩
   have e36 : ρ 36 = .int .i64 ((dFail d keep).2 : Int) := h36
   have e43 : ρ 43 = .int .i64 ((dFail d keep).2 : Int) := h43
   simp [execOp, evR, e36, e43, go_sem]
  refine tok_val rfl (.bool true) (fun _ _ _ => rfl) ?_ ?_
  ·rintro ρ w' he ⟨h44, -⟩
   have e44 : ρ 44 = .bool true := h44
   simp [execOp, evR, e44, go_sem]
  refine tok_nil ?_
  rintro ρ w' hle htk ⟨f4, f44, f43, f42, f41, f40, f39, f38, f37, f36, f35, f34, f33, f32, f31, f30, -⟩ -
  replace f4 : ρ 4 = .bool true := f4
  simp only [puts, Act.put, List.setIfInBounds_toArray, List.set_cons_zero, List.set_cons_succ]
  rw [show ρ 4 = .bool true from f4]
  clear f4 f30 f31 f32 f33 f34 f35 f36 f37 f38 f39 f40 f41 f42 f43 f44
  go_wp2_with fail
  go_ret
  rw [HF.out]
  obtain ⟨F1', F2', h1, h2⟩ := (show ∃ F1' F2', WP W0 w' bd br F1' F2' (dFail d keep).1 ol L (dFail d keep).1 ol R ∧ Cont (uni F1 F2) wb (uni F1' F2') w' from htk)
  exact ⟨rfl, F1', F2', h1, HC.out.trans h2⟩
 by_cases h7 : kind = 7
 ·subst h7
  have HF := Lib.hid (show fAct d ⟨7, name, data, nn, keep⟩ = (dAppend d name data).1 by unfold fAct; rw [if_neg (show ¬ ((7 : Int) = 4) by decide), if_neg (show ¬ ((7 : Int) = 5) by decide), if_pos rfl])
  go_enter Tryz.func26, Tryz.ntmps26
  go_upto_region 7 with (fail)
  rw [← HNBE.out, ← HE.out]
  refine wp_region_tok [false, false, false, false, false, false, false, false, true, false, false, false, false, false, false, false, false, true, false, false] (Kb (fun k => uni F1 F2 k ∨ wb.heap.size ≤ k)) (fun c w => if c < 1 then WP W0 w bd br F1 F2 d ol L d ol R ∧ Cont (uni F1 F2) wb (uni F1 F2) w else if c < 2 then ∃ F1', WP W0 w bd br F1' F2 (dAppend d name data).1 ol L d ol R ∧ Cont (uni F1 F2) wb (uni F1' F2) w else ∃ F1' F2', WP W0 w bd br F1' F2' (dAppend d name data).1 ol L (dAppend d name data).1 ol R ∧ Cont (uni F1 F2) wb (uni F1' F2') w) 2 (by kernel_rfl) (by kernel_rfl) (by kernel_rfl) (by kernel_rfl) (preKb' _) (Kb.of_ext (ext_drew wb)) ⟨HP.out.ext (ext_drew wb), (Cont.refl fun _ h => h).ext (ext_drew wb)⟩ ?_
  refine tok_val rfl (.pointer (some ⟨bb, 0, none⟩)) (fun _ _ _ => rfl) ?_ ?_
  ·rintro ρ w' he ⟨h0, -⟩
   have e0 : ρ 0 = .pointer (some ⟨bb, 0, none⟩) := h0
   simp [execOp, evR, e0, go_sem]
  refine tok_val rfl (.pointer (some ⟨bb, 0, none⟩)) (fun _ _ _ => rfl) ?_ ?_
  ·rintro ρ w' he ⟨h47, -⟩
   have e47 : ρ 47 = .pointer (some ⟨bb, 0, none⟩) := h47
   simp [execOp, evR, e47, go_sem]
  refine tok_val rfl (.pointer (some ⟨bb, 0, none⟩)) (fun _ _ _ => rfl) ?_ ?_
  ·rintro ρ w' he ⟨h48, -⟩
   have e48 : ρ 48 = .pointer (some ⟨bb, 0, none⟩) := h48
   simp [execOp, evR, e48, go_sem]
  refine tok_val rfl (.pointer (some ⟨bd, 0, none⟩)) (fun _ _ _ => rfl) ?_ ?_
  ·rintro ρ w' he ⟨h49, -⟩
   have e49 : ρ 49 = .pointer (some ⟨bb, 0, none⟩) := h49
   have c := (HB.out.kb he HNB.out).blk.cell (i := 0) rfl
   simp [execOp, evR, e49, c, go_sem]
  refine tok_val rfl (.pointer (some ⟨nb, 2, none⟩)) (fun _ _ _ => rfl) ?_ ?_
  ·rintro ρ w' he ⟨h3, -⟩
   have e3 : ρ 3 = .pointer (some ⟨nb, 0, none⟩) := h3
   simp [execOp, evR, e3, go_sem]
  refine tok_val rfl (strV name) (fun _ _ _ => rfl) ?_ ?_
  ·rintro ρ w' he ⟨h51, -⟩
   have e51 : ρ 51 = .pointer (some ⟨nb, 2, none⟩) := h51
   have c := (HBX.out.kb he HNX.out).blk.cell (i := 2) rfl
   simp [execOp, evR, e51, c, go_sem]
  refine tok_val rfl (.pointer (some ⟨nb, 1, none⟩)) (fun _ _ _ => rfl) ?_ ?_
  ·rintro ρ w' he ⟨h3, -⟩
   have e3 : ρ 3 = .pointer (some ⟨nb, 0, none⟩) := h3
   simp [execOp, evR, e3, go_sem]
  refine tok_val rfl (.slice A2 data.length c2) (fun _ _ _ => rfl) ?_ ?_
  ·rintro ρ w' he ⟨h53, -⟩
   have e53 : ρ 53 = .pointer (some ⟨nb, 1, none⟩) := h53
   have c := (HBX.out.kb he HNX.out).blk.cell (i := 1) rfl
   simp [execOp, evR, e53, c, go_sem]
  refine tok_call rfl rfl Tryz.func47 (by kernel_rfl) (fun v _ => v = .int .i64 ((dAppend d name data).2 : Int)) (fun _ _ _ h _ => h) (fun _ _ _ => rfl) ?_ ?_
  ·rintro ρ w' he ht ⟨h50, h52, h54, -⟩
   have e50 : ρ 50 = .pointer (some ⟨bd, 0, none⟩) := h50
   have e52 : ρ 52 = strV name := h52
   have e54 : ρ 54 = .slice A2 data.length c2 := h54
   simp only [evR, List.map_toArray, List.map_cons, List.map_nil, e50, e52, e54]
   have hp : WP W0 w' bd br F1 F2 d ol L d ol R ∧ Cont (uni F1 F2) wb (uni F1 F2) w' := ht
   have hz := hp.1.hx.size
   refine (hp.1.s1.call (x := dAppend d name data) (fun bm pl ms hd => append_any hd HOK.out HSM.out hz name HNL.out (HA.out.ext hp.1.hx))).mono ?_
   rintro e w2 ⟨rfl, F1', hs, hc⟩
   exact ⟨_, rfl, hc.kb.mono fun _ h => .inl (.inl h), rfl, F1', hp.1.one hs hc, hp.2.trans hc.uni1⟩
  refine tok_val rfl (.pointer (some ⟨bb, 0, none⟩)) (fun _ _ _ => rfl) ?_ ?_
  ·rintro ρ w' he ⟨h0, -⟩
   have e0 : ρ 0 = .pointer (some ⟨bb, 0, none⟩) := h0
   simp [execOp, evR, e0, go_sem]
  refine tok_val rfl (.pointer (some ⟨bb, 0, none⟩)) (fun _ _ _ => rfl) ?_ ?_
  ·rintro ρ w' he ⟨h56, -⟩
   have e56 : ρ 56 = .pointer (some ⟨bb, 0, none⟩) := h56
   simp [execOp, evR, e56, go_sem]
  refine tok_val rfl (.pointer (some ⟨bb, 2, none⟩)) (fun _ _ _ => rfl) ?_ ?_
  ·rintro ρ w' he ⟨h57, -⟩
   have e57 : ρ 57 = .pointer (some ⟨bb, 0, none⟩) := h57
   simp [execOp, evR, e57, go_sem]
  refine tok_val rfl (.pointer (some ⟨br, 0, none⟩)) (fun _ _ _ => rfl) ?_ ?_
  ·rintro ρ w' he ⟨h58, -⟩
   have e58 : ρ 58 = .pointer (some ⟨bb, 2, none⟩) := h58
   have c := (HB.out.kb he HNB.out).blk.cell (i := 2) rfl
   simp [execOp, evR, e58, c, go_sem]
  refine tok_val rfl (.pointer (some ⟨nb, 2, none⟩)) (fun _ _ _ => rfl) ?_ ?_
  ·rintro ρ w' he ⟨h3, -⟩
   have e3 : ρ 3 = .pointer (some ⟨nb, 0, none⟩) := h3
   simp [execOp, evR, e3, go_sem]
  refine tok_val rfl (strV name) (fun _ _ _ => rfl) ?_ ?_
  ·rintro ρ w' he ⟨h60, -⟩
   have e60 : ρ 60 = .pointer (some ⟨nb, 2, none⟩) := h60
   have c := (HBX.out.kb he HNX.out).blk.cell (i := 2) rfl
   simp [execOp, evR, e60, c, go_sem]
  refine tok_val rfl (.pointer (some ⟨nb, 1, none⟩)) (fun _ _ _ => rfl) ?_ ?_
  ·rintro ρ w' he ⟨h3, -⟩
   have e3 : ρ 3 = .pointer (some ⟨nb, 0, none⟩) := h3
   simp [execOp, evR, e3, go_sem]
  refine tok_val rfl (.slice A2 data.length c2) (fun _ _ _ => rfl) ?_ ?_
  ·rintro ρ w' he ⟨h62, -⟩
   have e62 : ρ 62 = .pointer (some ⟨nb, 1, none⟩) := h62
   have c := (HBX.out.kb he HNX.out).blk.cell (i := 1) rfl
   simp [execOp, evR, e62, c, go_sem]
  refine tok_call rfl rfl Tryz.func66 (by kernel_rfl) (fun v _ => v = .int .i64 ((dAppend d name data).2 : Int)) (fun _ _ _ h _ => h) (fun _ _ _ => rfl) ?_ ?_
  ·rintro ρ w' he ht ⟨h59, h61, h63, -⟩
   have e59 : ρ 59 = .pointer (some ⟨br, 0, none⟩) := h59
   have e61 : ρ 61 = strV name := h61
   have e63 : ρ 63 = .slice A2 data.length c2 := h63
   simp only [evR, List.map_toArray, List.map_cons, List.map_nil, e59, e61, e63]
   have hp : ∃ F1', WP W0 w' bd br F1' F2 (dAppend d name data).1 ol L d ol R ∧ Cont (uni F1 F2) wb (uni F1' F2) w' := ht
   obtain ⟨F1', hp1, hp2⟩ := hp
   have hz := hp1.hx.size
   refine (hp1.s2.call (x := dAppend d name data) (fun sr hd hf => rappend_any hd HOK.out HSM.out hz name (HA.out.ext hp1.hx) (fun j hj h0 hq => by have := data_lowW HA.out j hj h0; have := hd.low j hq; omega) (by omega))).mono ?_
   rintro e w2 ⟨rfl, F2', hs, hc⟩
   exact ⟨_, rfl, hc.kb.mono fun _ h => .inl (.inr h), rfl, F1', F2', hp1.two hs hc, hp2.trans hc.uni2⟩
  refine tok_val rfl (.bool true) (fun _ _ _ => rfl) ?_ ?_
  ·rintro ρ w' he ⟨h55, h64, -⟩
   have e55 : ρ 55 = .int .i64 ((dAppend d name data).2 : Int) := h55
   have e64 : ρ 64 = .int .i64 ((dAppend d name data).2 : Int) := h64
   simp [execOp, evR, e55, e64, go_sem]
  refine tok_val rfl (.bool true) (fun _ _ _ => rfl) ?_ ?_
  ·rintro ρ w' he ⟨h65, -⟩
   have e65 : ρ 65 = .bool true := h65
   simp [execOp, evR, e65, go_sem]
  refine tok_nil ?_
  rintro ρ w' hle htk ⟨f4, f65, f64, f63, f62, f61, f60, f59, f58, f57, f56, f55, f54, f53, f52, f51, f50, f49, f48, f47, -⟩ -
  replace f4 : ρ 4 = .bool true := f4
  simp only [puts, Act.put, List.setIfInBounds_toArray, List.set_cons_zero, List.set_cons_succ]
  rw [show ρ 4 = .bool true from f4]
  clear f4 f47 f48 f49 f50 f51 f52 f53 f54 f55 f56 f57 f58 f59 f60 f61 f62 f63 f64 f65
  go_wp2_with fail
  go_ret
  rw [HF.out]
  obtain ⟨F1', F2', h1, h2⟩ := (show ∃ F1' F2', WP W0 w' bd br F1' F2' (dAppend d name data).1 ol L (dAppend d name data).1 ol R ∧ Cont (uni F1 F2) wb (uni F1' F2') w' from htk)
  exact ⟨rfl, F1', F2', h1, HC.out.trans h2⟩
 by_cases h8 : kind = 8
 ·subst h8
  have HF := Lib.hid (show fAct d ⟨8, name, data, nn, keep⟩ = (dDrop d name).1 by unfold fAct; rw [if_neg (show ¬ ((8 : Int) = 4) by decide), if_neg (show ¬ ((8 : Int) = 5) by decide), if_neg (show ¬ ((8 : Int) = 7) by decide), if_pos rfl])
  go_enter Tryz.func26, Tryz.ntmps26
  go_upto_region 9 with (fail)
  rw [← HNBE.out, ← HE.out]
  refine wp_region_tok [false, false, false, false, false, false, true, false, false, false, false, false, false, true, false, false] (Kb (fun k => uni F1 F2 k ∨ wb.heap.size ≤ k)) (fun c w => if c < 1 then WP W0 w bd br F1 F2 d ol L d ol R ∧ Cont (uni F1 F2) wb (uni F1 F2) w else if c < 2 then ∃ F1', WP W0 w bd br F1' F2 (dDrop d name).1 ol L d ol R ∧ Cont (uni F1 F2) wb (uni F1' F2) w else ∃ F1' F2', WP W0 w bd br F1' F2' (dDrop d name).1 ol L (dDrop d name).1 ol R ∧ Cont (uni F1 F2) wb (uni F1' F2') w) 2 (by kernel_rfl) (by kernel_rfl) (by kernel_rfl) (by kernel_rfl) (preKb' _) (Kb.of_ext (ext_drew wb)) ⟨HP.out.ext (ext_drew wb), (Cont.refl fun _ h => h).ext (ext_drew wb)⟩ ?_
  refine tok_val rfl (.pointer (some ⟨bb, 0, none⟩)) (fun _ _ _ => rfl) ?_ ?_
  ·rintro ρ w' he ⟨h0, -⟩
   have e0 : ρ 0 = .pointer (some ⟨bb, 0, none⟩) := h0
   simp [execOp, evR, e0, go_sem]
  refine tok_val rfl (.pointer (some ⟨bb, 0, none⟩)) (fun _ _ _ => rfl) ?_ ?_
  ·rintro ρ w' he ⟨h68, -⟩
   have e68 : ρ 68 = .pointer (some ⟨bb, 0, none⟩) := h68
   simp [execOp, evR, e68, go_sem]
  refine tok_val rfl (.pointer (some ⟨bb, 0, none⟩)) (fun _ _ _ => rfl) ?_ ?_
  ·rintro ρ w' he ⟨h69, -⟩
   have e69 : ρ 69 = .pointer (some ⟨bb, 0, none⟩) := h69
   simp [execOp, evR, e69, go_sem]
  refine tok_val rfl (.pointer (some ⟨bd, 0, none⟩)) (fun _ _ _ => rfl) ?_ ?_
  ·rintro ρ w' he ⟨h70, -⟩
   have e70 : ρ 70 = .pointer (some ⟨bb, 0, none⟩) := h70
   have c := (HB.out.kb he HNB.out).blk.cell (i := 0) rfl
   simp [execOp, evR, e70, c, go_sem]
  refine tok_val rfl (.pointer (some ⟨nb, 2, none⟩)) (fun _ _ _ => rfl) ?_ ?_
  ·rintro ρ w' he ⟨h3, -⟩
   have e3 : ρ 3 = .pointer (some ⟨nb, 0, none⟩) := h3
   simp [execOp, evR, e3, go_sem]
  refine tok_val rfl (strV name) (fun _ _ _ => rfl) ?_ ?_
  ·rintro ρ w' he ⟨h72, -⟩
   have e72 : ρ 72 = .pointer (some ⟨nb, 2, none⟩) := h72
   have c := (HBX.out.kb he HNX.out).blk.cell (i := 2) rfl
   simp [execOp, evR, e72, c, go_sem]
  refine tok_call rfl rfl Tryz.func67 (by kernel_rfl) (fun v _ => v = .int .i64 ((dDrop d name).2 : Int)) (fun _ _ _ h _ => h) (fun _ _ _ => rfl) ?_ ?_
  ·rintro ρ w' he ht ⟨h71, h73, -⟩
   have e71 : ρ 71 = .pointer (some ⟨bd, 0, none⟩) := h71
   have e73 : ρ 73 = strV name := h73
   simp only [evR, List.map_toArray, List.map_cons, List.map_nil, e71, e73]
   have hp : WP W0 w' bd br F1 F2 d ol L d ol R ∧ Cont (uni F1 F2) wb (uni F1 F2) w' := ht
   have hz := hp.1.hx.size
   refine (hp.1.s1.call (x := dDrop d name) (fun bm pl ms hd => drop_any hd HOK.out HSM.out hz name HNL.out)).mono ?_
   rintro e w2 ⟨rfl, F1', hs, hc⟩
   exact ⟨_, rfl, hc.kb.mono fun _ h => .inl (.inl h), rfl, F1', hp.1.one hs hc, hp.2.trans hc.uni1⟩
  refine tok_val rfl (.pointer (some ⟨bb, 0, none⟩)) (fun _ _ _ => rfl) ?_ ?_
  ·rintro ρ w' he ⟨h0, -⟩
   have e0 : ρ 0 = .pointer (some ⟨bb, 0, none⟩) := h0
   simp [execOp, evR, e0, go_sem]
  refine tok_val rfl (.pointer (some ⟨bb, 0, none⟩)) (fun _ _ _ => rfl) ?_ ?_
  ·rintro ρ w' he ⟨h75, -⟩
   have e75 : ρ 75 = .pointer (some ⟨bb, 0, none⟩) := h75
   simp [execOp, evR, e75, go_sem]
  refine tok_val rfl (.pointer (some ⟨bb, 2, none⟩)) (fun _ _ _ => rfl) ?_ ?_
  ·rintro ρ w' he ⟨h76, -⟩
   have e76 : ρ 76 = .pointer (some ⟨bb, 0, none⟩) := h76
   simp [execOp, evR, e76, go_sem]
  refine tok_val rfl (.pointer (some ⟨br, 0, none⟩)) (fun _ _ _ => rfl) ?_ ?_
  ·rintro ρ w' he ⟨h77, -⟩
   have e77 : ρ 77 = .pointer (some ⟨bb, 2, none⟩) := h77
   have c := (HB.out.kb he HNB.out).blk.cell (i := 2) rfl
   simp [execOp, evR, e77, c, go_sem]
  refine tok_val rfl (.pointer (some ⟨nb, 2, none⟩)) (fun _ _ _ => rfl) ?_ ?_
  ·rintro ρ w' he ⟨h3, -⟩
   have e3 : ρ 3 = .pointer (some ⟨nb, 0, none⟩) := h3
   simp [execOp, evR, e3, go_sem]
  refine tok_val rfl (strV name) (fun _ _ _ => rfl) ?_ ?_
  ·rintro ρ w' he ⟨h79, -⟩
   have e79 : ρ 79 = .pointer (some ⟨nb, 2, none⟩) := h79
   have c := (HBX.out.kb he HNX.out).blk.cell (i := 2) rfl
   simp [execOp, evR, e79, c, go_sem]
  refine tok_call rfl rfl Tryz.func68 (by kernel_rfl) (fun v _ => v = .int .i64 ((dDrop d name).2 : Int)) (fun _ _ _ h _ => h) (fun _ _ _ => rfl) ?_ ?_
  ·rintro ρ w' he ht ⟨h78, h80, -⟩
   have e78 : ρ 78 = .pointer (some ⟨br, 0, none⟩) := h78
   have e80 : ρ 80 = strV name := h80
   simp only [evR, List.map_toArray, List.map_cons, List.map_nil, e78, e80]
   have hp : ∃ F1', WP W0 w' bd br F1' F2 (dDrop d name).1 ol L d ol R ∧ Cont (uni F1 F2) wb (uni F1' F2) w' := ht
   obtain ⟨F1', hp1, hp2⟩ := hp
   have hz := hp1.hx.size
   refine (hp1.s2.call (x := dDrop d name) (fun sr hd hf => rdrop_any hd HOK.out HSM.out hz name)).mono ?_
   rintro e w2 ⟨rfl, F2', hs, hc⟩
   exact ⟨_, rfl, hc.kb.mono fun _ h => .inl (.inr h), rfl, F1', F2', hp1.two hs hc, hp2.trans hc.uni2⟩
  refine tok_val rfl (.bool true) (fun _ _ _ => rfl) ?_ ?_
  ·rintro ρ w' he ⟨h74, h81, -⟩
   have e74 : ρ 74 = .int .i64 ((dDrop d name).2 : Int) := h74
   have e81 : ρ 81 = .int .i64 ((dDrop d name).2 : Int) := h81
   simp [execOp, evR, e74, e81, go_sem]
  refine tok_val rfl (.bool true) (fun _ _ _ => rfl) ?_ ?_
  ·rintro ρ w' he ⟨h82, -⟩
   have e82 : ρ 82 = .bool true := h82
   simp [execOp, evR, e82, go_sem]
  refine tok_nil ?_
  rintro ρ w' hle htk ⟨f4, f82, f81, f80, f79, f78, f77, f76, f75, f74, f73, f72, f71, f70, f69, f68, -⟩ -
  replace f4 : ρ 4 = .bool true := f4
  simp only [puts, Act.put, List.setIfInBounds_toArray, List.set_cons_zero, List.set_cons_succ]
  rw [show ρ 4 = .bool true from f4]
  clear f4 f68 f69 f70 f71 f72 f73 f74 f75 f76 f77 f78 f79 f80 f81 f82
  go_wp2_with fail
  go_ret
  rw [HF.out]
  obtain ⟨F1', F2', h1, h2⟩ := (show ∃ F1' F2', WP W0 w' bd br F1' F2' (dDrop d name).1 ol L (dDrop d name).1 ol R ∧ Cont (uni F1 F2) wb (uni F1' F2') w' from htk)
  exact ⟨rfl, F1', F2', h1, HC.out.trans h2⟩
 by_cases h9 : kind = 9
 ·subst h9
  have HF := Lib.hid (show fAct d ⟨9, name, data, nn, keep⟩ = (dMake d name).1 by unfold fAct; rw [if_neg (show ¬ ((9 : Int) = 4) by decide), if_neg (show ¬ ((9 : Int) = 5) by decide), if_neg (show ¬ ((9 : Int) = 7) by decide), if_neg (show ¬ ((9 : Int) = 8) by decide), if_pos rfl])
  go_enter Tryz.func26, Tryz.ntmps26
  go_upto_region 11 with (fail)
  rw [← HNBE.out, ← HE.out]
  refine wp_region_tok [false, false, false, false, false, false, true, false, false, false, false, false, false, true, false, false] (Kb (fun k => uni F1 F2 k ∨ wb.heap.size ≤ k)) (fun c w => if c < 1 then WP W0 w bd br F1 F2 d ol L d ol R ∧ Cont (uni F1 F2) wb (uni F1 F2) w else if c < 2 then ∃ F1', WP W0 w bd br F1' F2 (dMake d name).1 ol L d ol R ∧ Cont (uni F1 F2) wb (uni F1' F2) w else ∃ F1' F2', WP W0 w bd br F1' F2' (dMake d name).1 ol L (dMake d name).1 ol R ∧ Cont (uni F1 F2) wb (uni F1' F2') w) 2 (by kernel_rfl) (by kernel_rfl) (by kernel_rfl) (by kernel_rfl) (preKb' _) (Kb.of_ext (ext_drew wb)) ⟨HP.out.ext (ext_drew wb), (Cont.refl fun _ h => h).ext (ext_drew wb)⟩ ?_
  refine tok_val rfl (.pointer (some ⟨bb, 0, none⟩)) (fun _ _ _ => rfl) ?_ ?_
  ·rintro ρ w' he ⟨h0, -⟩
   have e0 : ρ 0 = .pointer (some ⟨bb, 0, none⟩) := h0
   simp [execOp, evR, e0, go_sem]
  refine tok_val rfl (.pointer (some ⟨bb, 0, none⟩)) (fun _ _ _ => rfl) ?_ ?_
  ·rintro ρ w' he ⟨h85, -⟩
   have e85 : ρ 85 = .pointer (some ⟨bb, 0, none⟩) := h85
   simp [execOp, evR, e85, go_sem]
  refine tok_val rfl (.pointer (some ⟨bb, 0, none⟩)) (fun _ _ _ => rfl) ?_ ?_
  ·rintro ρ w' he ⟨h86, -⟩
   have e86 : ρ 86 = .pointer (some ⟨bb, 0, none⟩) := h86
   simp [execOp, evR, e86, go_sem]
  refine tok_val rfl (.pointer (some ⟨bd, 0, none⟩)) (fun _ _ _ => rfl) ?_ ?_
  ·rintro ρ w' he ⟨h87, -⟩
   have e87 : ρ 87 = .pointer (some ⟨bb, 0, none⟩) := h87
   have c := (HB.out.kb he HNB.out).blk.cell (i := 0) rfl
   simp [execOp, evR, e87, c, go_sem]
  refine tok_val rfl (.pointer (some ⟨nb, 2, none⟩)) (fun _ _ _ => rfl) ?_ ?_
  ·rintro ρ w' he ⟨h3, -⟩
   have e3 : ρ 3 = .pointer (some ⟨nb, 0, none⟩) := h3
   simp [execOp, evR, e3, go_sem]
  refine tok_val rfl (strV name) (fun _ _ _ => rfl) ?_ ?_
  ·rintro ρ w' he ⟨h89, -⟩
   have e89 : ρ 89 = .pointer (some ⟨nb, 2, none⟩) := h89
   have c := (HBX.out.kb he HNX.out).blk.cell (i := 2) rfl
   simp [execOp, evR, e89, c, go_sem]
  refine tok_call rfl rfl Tryz.func37 (by kernel_rfl) (fun v _ => v = .int .i64 ((dMake d name).2 : Int)) (fun _ _ _ h _ => h) (fun _ _ _ => rfl) ?_ ?_
  ·rintro ρ w' he ht ⟨h88, h90, -⟩
   have e88 : ρ 88 = .pointer (some ⟨bd, 0, none⟩) := h88
   have e90 : ρ 90 = strV name := h90
   simp only [evR, List.map_toArray, List.map_cons, List.map_nil, e88, e90]
   have hp : WP W0 w' bd br F1 F2 d ol L d ol R ∧ Cont (uni F1 F2) wb (uni F1 F2) w' := ht
   have hz := hp.1.hx.size
   refine (hp.1.s1.call (x := dMake d name) (fun bm pl ms hd => make_any hd HOK.out HSM.out hz name HNL.out)).mono ?_
   rintro e w2 ⟨rfl, F1', hs, hc⟩
   exact ⟨_, rfl, hc.kb.mono fun _ h => .inl (.inl h), rfl, F1', hp.1.one hs hc, hp.2.trans hc.uni1⟩
  refine tok_val rfl (.pointer (some ⟨bb, 0, none⟩)) (fun _ _ _ => rfl) ?_ ?_
  ·rintro ρ w' he ⟨h0, -⟩
   have e0 : ρ 0 = .pointer (some ⟨bb, 0, none⟩) := h0
   simp [execOp, evR, e0, go_sem]
  refine tok_val rfl (.pointer (some ⟨bb, 0, none⟩)) (fun _ _ _ => rfl) ?_ ?_
  ·rintro ρ w' he ⟨h92, -⟩
   have e92 : ρ 92 = .pointer (some ⟨bb, 0, none⟩) := h92
   simp [execOp, evR, e92, go_sem]
  refine tok_val rfl (.pointer (some ⟨bb, 2, none⟩)) (fun _ _ _ => rfl) ?_ ?_
  ·rintro ρ w' he ⟨h93, -⟩
   have e93 : ρ 93 = .pointer (some ⟨bb, 0, none⟩) := h93
   simp [execOp, evR, e93, go_sem]
  refine tok_val rfl (.pointer (some ⟨br, 0, none⟩)) (fun _ _ _ => rfl) ?_ ?_
  ·rintro ρ w' he ⟨h94, -⟩
   have e94 : ρ 94 = .pointer (some ⟨bb, 2, none⟩) := h94
   have c := (HB.out.kb he HNB.out).blk.cell (i := 2) rfl
   simp [execOp, evR, e94, c, go_sem]
  refine tok_val rfl (.pointer (some ⟨nb, 2, none⟩)) (fun _ _ _ => rfl) ?_ ?_
  ·rintro ρ w' he ⟨h3, -⟩
   have e3 : ρ 3 = .pointer (some ⟨nb, 0, none⟩) := h3
   simp [execOp, evR, e3, go_sem]
  refine tok_val rfl (strV name) (fun _ _ _ => rfl) ?_ ?_
  ·rintro ρ w' he ⟨h96, -⟩
   have e96 : ρ 96 = .pointer (some ⟨nb, 2, none⟩) := h96
   have c := (HBX.out.kb he HNX.out).blk.cell (i := 2) rfl
   simp [execOp, evR, e96, c, go_sem]
  refine tok_call rfl rfl Tryz.func55 (by kernel_rfl) (fun v _ => v = .int .i64 ((dMake d name).2 : Int)) (fun _ _ _ h _ => h) (fun _ _ _ => rfl) ?_ ?_
  ·rintro ρ w' he ht ⟨h95, h97, -⟩
   have e95 : ρ 95 = .pointer (some ⟨br, 0, none⟩) := h95
   have e97 : ρ 97 = strV name := h97
   simp only [evR, List.map_toArray, List.map_cons, List.map_nil, e95, e97]
   have hp : ∃ F1', WP W0 w' bd br F1' F2 (dMake d name).1 ol L d ol R ∧ Cont (uni F1 F2) wb (uni F1' F2) w' := ht
   obtain ⟨F1', hp1, hp2⟩ := hp
   have hz := hp1.hx.size
   refine (hp1.s2.call (x := dMake d name) (fun sr hd hf => rmake_any hd HOK.out HSM.out hz name HNL.out)).mono ?_
   rintro e w2 ⟨rfl, F2', hs, hc⟩
   exact ⟨_, rfl, hc.kb.mono fun _ h => .inl (.inr h), rfl, F1', F2', hp1.two hs hc, hp2.trans hc.uni2⟩
  refine tok_val rfl (.bool true) (fun _ _ _ => rfl) ?_ ?_
  ·rintro ρ w' he ⟨h91, h98, -⟩
   have e91 : ρ 91 = .int .i64 ((dMake d name).2 : Int) := h91
   have e98 : ρ 98 = .int .i64 ((dMake d name).2 : Int) := h98
   simp [execOp, evR, e91, e98, go_sem]
  refine tok_val rfl (.bool true) (fun _ _ _ => rfl) ?_ ?_
  ·rintro ρ w' he ⟨h99, -⟩
   have e99 : ρ 99 = .bool true := h99
   simp [execOp, evR, e99, go_sem]
  refine tok_nil ?_
  rintro ρ w' hle htk ⟨f4, f99, f98, f97, f96, f95, f94, f93, f92, f91, f90, f89, f88, f87, f86, f85, -⟩ -
  replace f4 : ρ 4 = .bool true := f4
  simp only [puts, Act.put, List.setIfInBounds_toArray, List.set_cons_zero, List.set_cons_succ]
  rw [show ρ 4 = .bool true from f4]
  clear f4 f85 f86 f87 f88 f89 f90 f91 f92 f93 f94 f95 f96 f97 f98 f99
  go_wp2_with fail
  go_ret
  rw [HF.out]
  obtain ⟨F1', F2', h1, h2⟩ := (show ∃ F1' F2', WP W0 w' bd br F1' F2' (dMake d name).1 ol L (dMake d name).1 ol R ∧ Cont (uni F1 F2) wb (uni F1' F2') w' from htk)
  exact ⟨rfl, F1', F2', h1, HC.out.trans h2⟩
 have HF := Lib.hid (show fAct d ⟨kind, name, data, nn, keep⟩ = d by unfold fAct; rw [if_neg h4, if_neg h5, if_neg h7, if_neg h8, if_neg h9])
 go_enter Tryz.func26, Tryz.ntmps26
 go_wp2_with fail
 go_ret
 rw [HF.out]
 refine ⟨rfl, F1, F2, ?_⟩
 have h1 := HP.out
 have h2 := HC.out
 rw [HE.out] at h1 h2
 exact ⟨h1, h2⟩
end Go.Proofs.YtagghghoimpofaaGreatDoor

/-
 Layer 16: an act is done to both logs.
-/
namespace Go.Proofs.YtagghghoimpofaaGreatDoor
open Go Go.RowKit Mono
set_option linter.unusedVariables false
set_option linter.unusedSimpArgs false
set_option maxRecDepth 100000
set_option maxHeartbeats 4000000

/-- What an act leaves of a disk and its log. -/
def wAct (size : Int) (st : Dk × Option Lg) (a : WAct) : Dk × Option Lg :=
 if a.kind = 3 then ((wOpen st.1 size).d, (wOpen st.1 size).l)
 else if a.kind = 4 ∨ a.kind = 5 then (fAct st.1 a, st.2)
 else if a.kind = 6 then ((wOpen (dPower st.1) size).d, (wOpen (dPower st.1) size).l)
 else if a.kind = 7 ∨ a.kind = 8 ∨ a.kind = 9 then ((wOpen (fAct st.1 a) size).d, (wOpen (fAct st.1 a) size).l)
 else match st.2 with
  | none => st
  | some l =>
   if a.kind = 0 then ((wAppend st.1 l a.data).1.1, some (wAppend st.1 l a.data).1.2)
   else if a.kind = 1 then ((wSync st.1 l).1.1, some (wSync st.1 l).1.2)
   else if a.kind = 2 then ((wRetire st.1 l a.n).1.1, some (wRetire st.1 l a.n).1.2)
   else st
/-- What a call leaves of both. -/
def BQ (W0 W : World) (bb bd br : Nat) (F1 F2 : Nat → Prop) (size : Int) (x : Dk × Option Lg) (e : Ending) (w' : World) : Prop := e = .returned (.bool true) ∧ ∃ F1' F2' L' R', WP W0 w' bd br F1' F2' x.1 x.2 L' x.1 x.2 R' ∧
 BlkT w' bb 31 [.pointer (some ⟨bd, 0, none⟩), L', .pointer (some ⟨br, 0, none⟩), R', .int .i64 size] ∧ ¬ uni F1' F2' bb ∧ Cont (fun k => uni F1 F2 k ∨ k = bb) W (fun k => uni F1' F2' k ∨ k = bb) w'
theorem BQ.of {W0 W w : World} {bb bd br : Nat} {F1 F2 F1' F2' : Nat → Prop} {size : Int} {x : Dk × Option Lg} {L R : Value} (h : WP W0 w bd br F1' F2' x.1 x.2 L x.1 x.2 R) (c : Cont (uni F1 F2) W (uni F1' F2') w) (hb : BlkT W bb 31 [.pointer (some ⟨bd, 0, none⟩), L, .pointer (some ⟨br, 0, none⟩), R, .int .i64 size]) (hn : ¬ uni F1 F2 bb) :
  BQ W0 W bb bd br F1 F2 size x (.returned (.bool true)) w := by
 obtain ⟨h1, h2⟩ := c.unis hb hn
 exact ⟨rfl, F1', F2', L, R, h, h1, h2, c.kb.mono fun _ h => .inl h, fun k hk => hk.elim (fun h => (c.sub k h).imp .inl id) (fun h => .inl (.inr h))⟩
theorem BQ.behind {W0 W w w' : World} {bb bd br : Nat} {F1 F2 F1' F2' : Nat → Prop} {size : Int} {x : Dk × Option Lg} {e : Ending} (c : Cont (uni F1 F2) W (uni F1' F2') w) (h : BQ W0 w bb bd br F1' F2' size x e w') : BQ W0 W bb bd br F1 F2 size x e w' := by
 obtain ⟨h0, F1'', F2'', L', R', h1, h2, h3, h4⟩ := h
 exact ⟨h0, F1'', F2'', L', R', h1, h2, h3, (show Cont (fun k => uni F1 F2 k ∨ k = bb) W (fun k => uni F1' F2' k ∨ k = bb) w from ⟨c.kb.mono fun _ h => .inl h, fun k hk => hk.elim (fun h => (c.sub k h).imp .inl id) (fun h => .inl (.inr h))⟩).trans h4⟩
section
variable {W0 W : World} {bd br c c0 bl : Nat} {F : Nat → Prop} {d : Dk} {l : Lg}
theorem S1.append (h : S1 W0 W bd F d (.pointer (some ⟨bl, 0, none⟩)) (some l)) (hx : Ext W0 W) (hT : TbW W0) (hok : d.Ok) (hsc : d.SmallC c0) (hc0 : c0 + 10 ≤ 1000000000) (hl : LOk c l) (hc : c ≤ 100000) {va : Value} {data : List UInt8} (ha : Bs W0 va data) :
  Calls Tryz.prog 13 #[.pointer (some ⟨bl, 0, none⟩), va] W fun e w' => e = .returned (.tuple #[.int .i64 ((wAppend d l data).2.1 : Int), .int .i64 ((wAppend d l data).2.2 : Int)]) ∧ ∃ F', S1 W0 w' bd F' (wAppend d l data).1.1 (.pointer (some ⟨bl, 0, none⟩)) (some (wAppend d l data).1.2) ∧ Cont F W F' w' := by
 obtain ⟨bl', he, h1⟩ := h
 injection he with he
 injection he with he
 injection he with he _ _
 subst he
 refine (wAppend_any h1 hx hT hok hl.ne hl.pos hl.nx9 hsc hc0 (by have := hl.len; omega) (by have := hl.bytes; omega) (ha.ext hx)).mono ?_
 rintro e w' ⟨rfl, hs⟩
 obtain ⟨F', h2, h3⟩ := Cont.of_dls hs
 exact ⟨rfl, F', ⟨_, rfl, h2⟩, h3⟩
theorem S1.sync (h : S1 W0 W bd F d (.pointer (some ⟨bl, 0, none⟩)) (some l)) (hx : Ext W0 W) (hT : TbW W0) (hok : d.Ok) (hsc : d.SmallC c0) (hc0 : c0 + 10 ≤ 1000000000) (hl : LOk c l) :
  Calls Tryz.prog 30 #[.pointer (some ⟨bl, 0, none⟩)] W fun e w' => e = .returned (.int .i64 ((wSync d l).2 : Int)) ∧ ∃ F', S1 W0 w' bd F' (wSync d l).1.1 (.pointer (some ⟨bl, 0, none⟩)) (some (wSync d l).1.2) ∧ Cont F W F' w' := by
 obtain ⟨bl', he, h1⟩ := h
 injection he with he
 injection he with he
 injection he with he _ _
 subst he
 refine (wSync_any h1 hx hT hok (hsc.small (by omega)) hl.ne hl.pos (Nat.le_trans hl.nx9 (by decide))).mono ?_
 rintro e w' ⟨rfl, hs⟩
 obtain ⟨F', h2, h3⟩ := Cont.of_dls hs
 exact ⟨rfl, F', ⟨_, rfl, h2⟩, h3⟩
theorem S1.retire (h : S1 W0 W bd F d (.pointer (some ⟨bl, 0, none⟩)) (some l)) (hx : Ext W0 W) (hT : TbW W0) (hok : d.Ok) (hsc : d.SmallC c0) (hc0 : c0 + 1000000 ≤ 1000000000) (hl : LOk c l) (hc : c ≤ 100000) (n : Int) :
  Calls Tryz.prog 32 #[.pointer (some ⟨bl, 0, none⟩), .int .i64 n] W fun e w' => e = .returned (.int .i64 ((wRetire d l n).2 : Int)) ∧ ∃ F', S1 W0 w' bd F' (wRetire d l n).1.1 (.pointer (some ⟨bl, 0, none⟩)) (some (wRetire d l n).1.2) ∧ Cont F W F' w' := by
 obtain ⟨bl', he, h1⟩ := h
 injection he with he
 injection he with he
 injection he with he _ _
 subst he
 refine (wRetire_any h1 hx hT hok hsc hl.ne (by have := hl.len; omega) n).mono ?_
 rintro e w' ⟨rfl, hs⟩
 obtain ⟨F', h2, h3⟩ := Cont.of_dls hs
 exact ⟨rfl, F', ⟨_, rfl, h2⟩, h3⟩
theorem S2.append (h : S2 W0 W br F d (.pointer (some ⟨bl, 0, none⟩)) (some l)) (hx : Ext W0 W) (hok : d.Ok) (hsc : d.SmallC c0) (hc0 : c0 + 10 ≤ 1000000000) (hl : LOk c l) (hc : c ≤ 100000) {va : Value} {data : List UInt8} (ha : Bs W0 va data) :
  Calls Tryz.prog 29 #[.pointer (some ⟨bl, 0, none⟩), va] W fun e w' => e = .returned (.tuple #[.int .i64 ((wAppend d l data).2.1 : Int), .int .i64 ((wAppend d l data).2.2 : Int)]) ∧ ∃ F', S2 W0 w' br F' (wAppend d l data).1.1 (.pointer (some ⟨bl, 0, none⟩)) (some (wAppend d l data).1.2) ∧ Cont F W F' w' := by
 obtain ⟨bl', s, v, he, h1, hF⟩ := h
 injection he with he
 injection he with he
 injection he with he _ _
 subst he
 refine (rlAppend_any h1 hok hl.ne hl.pos hl.nx9 hsc hc0 (by have := hl.len; omega) (by have := hl.bytes; omega) (ha.ext hx)).mono ?_
 rintro e w' ⟨rfl, s', v', h2, h3⟩
 exact ⟨rfl, _, ⟨_, s', v', rfl, h2, fun _ => Iff.rfl⟩, h3.kb.mono (fun b hb => (hF b).2 hb), fun k hk => (h3.sub k hk).imp (fun h => (hF k).2 h) id⟩
theorem S2.sync (h : S2 W0 W br F d (.pointer (some ⟨bl, 0, none⟩)) (some l)) (hok : d.Ok) (hsc : d.SmallC c0) (hc0 : c0 + 10 ≤ 1000000000) (hl : LOk c l) :
  Calls Tryz.prog 31 #[.pointer (some ⟨bl, 0, none⟩)] W fun e w' => e = .returned (.int .i64 ((wSync d l).2 : Int)) ∧ ∃ F', S2 W0 w' br F' (wSync d l).1.1 (.pointer (some ⟨bl, 0, none⟩)) (some (wSync d l).1.2) ∧ Cont F W F' w' := by
 obtain ⟨bl', s, v, he, h1, hF⟩ := h
 injection he with he
 injection he with he
 injection he with he _ _
 subst he
 refine (rlSync_any h1 hok (hsc.small (by omega)) hl.ne hl.pos (Nat.le_trans hl.nx9 (by decide))).mono ?_
 rintro e w' ⟨rfl, s', v', h2, h3⟩
 exact ⟨rfl, _, ⟨_, s', v', rfl, h2, fun _ => Iff.rfl⟩, h3.kb.mono (fun b hb => (hF b).2 hb), fun k hk => (h3.sub k hk).imp (fun h => (hF k).2 h) id⟩
theorem S2.retire (h : S2 W0 W br F d (.pointer (some ⟨bl, 0, none⟩)) (some l)) (hok : d.Ok) (hsc : d.SmallC c0) (hc0 : c0 + 1000000 ≤ 1000000000) (hl : LOk c l) (hc : c ≤ 100000) (n : Int) :
  Calls Tryz.prog 33 #[.pointer (some ⟨bl, 0, none⟩), .int .i64 n] W fun e w' => e = .returned (.int .i64 ((wRetire d l n).2 : Int)) ∧ ∃ F', S2 W0 w' br F' (wRetire d l n).1.1 (.pointer (some ⟨bl, 0, none⟩)) (some (wRetire d l n).1.2) ∧ Cont F W F' w' := by
 obtain ⟨bl', s, v, he, h1, hF⟩ := h
 injection he with he
 injection he with he
 injection he with he _ _
 subst he
 refine (rlRetire_any h1 hok hsc hl.ne (by have := hl.len; omega) n).mono ?_
 rintro e w' ⟨rfl, s', v', h2, h3⟩
 exact ⟨rfl, _, ⟨_, s', v', rfl, h2, fun _ => Iff.rfl⟩, h3.kb.mono (fun b hb => (hF b).2 hb), fun k hk => (h3.sub k hk).imp (fun h => (hF k).2 h) id⟩
end
theorem WP.ptrs {W0 W : World} {bd br : Nat} {F1 F2 : Nat → Prop} {d e : Dk} {ol oe : Option Lg} {L R : Value} (h : WP W0 W bd br F1 F2 d ol L e oe R) : (∃ p, L = .pointer p) ∧ ∃ p, R = .pointer p := by
 refine ⟨?_, ?_⟩
 ·cases ol with
  | none => exact ⟨_, h.s1.nil⟩
  | some l => obtain ⟨bl, h⟩ := h.s1.ptr; exact ⟨_, h⟩
 ·cases oe with
  | none => exact ⟨_, h.s2.nil⟩
  | some l => obtain ⟨bl, h⟩ := h.s2.ptr; exact ⟨_, h⟩
theorem fAct_ok {d : Dk} (h : d.Ok) (a : WAct) : (fAct d a).Ok := by
 unfold fAct
 split
 ·exact dArm_ok h _ _
 split
 ·exact dFail_ok h _
 split
 ·exact dAppend_ok h _ _
 split
 ·exact dDrop_ok h _
 split
 ·exact dMake_ok h _
 ·exact h
theorem fAct_small {c : Nat} {d : Dk} (h : d.SmallC c) (a : WAct) (hn : a.n < 9223372036854775808) : (fAct d a).SmallC (c + 1) := by
 unfold fAct
 split
 ·exact dArm_small h _ _ hn
 split
 ·exact dFail_small h _
 split
 ·exact h.grow (dAppend_grow _ _ _)
 split
 ·exact h.grow (dDrop_grow _ _)
 split
 ·exact h.grow (dMake_grow _ _)
 ·exact h.more (Nat.le_succ _)
theorem bact_any {W0 W : World} {bb bd br c c0 : Nat} {F1 F2 : Nat → Prop} {d : Dk} {ol : Option Lg} {L R : Value} {size : Int} (h : WP W0 W bd br F1 F2 d ol L d ol R) (hT : TbW W0)
  (hb : BlkT W bb 31 [.pointer (some ⟨bd, 0, none⟩), L, .pointer (some ⟨br, 0, none⟩), R, .int .i64 size]) (hn : ¬ uni F1 F2 bb) (hlo : W0.heap.size ≤ bb) (hok : d.Ok) (hsc : d.SmallC c0) (hc0 : c0 + 1000000 ≤ 1000000000) (hlk : ∀ l, ol = some l → LOk c l) (hc : c ≤ 100000)
  (kind : Int) (name data : List UInt8) (nn keep : Int) {va : Value} (ha : Bs W0 va data) (hnl : name.length ≤ maxLen) (hdl : data.length ≤ 20000) (hnn : nn < 9223372036854775808) :
  Calls Tryz.prog 10 #[.pointer (some ⟨bb, 0, none⟩), .agg #[.int .i64 kind, va, strV name, .int .i64 nn, .int .i64 keep]] W (BQ W0 W bb bd br F1 F2 size (wAct size (d, ol) ⟨kind, name, data, nn, keep⟩)) := by
 obtain ⟨A2, c2, rfl, a1, a2, -, -⟩ := ha.open_
 obtain ⟨hLp, hRp⟩ := h.ptrs
 have HA := Lib.hid ha
 have HNL := Lib.hid hnl
 have HDL := Lib.hid hdl
 have HNN := Lib.hid hnn
 have HOK := Lib.hid hok
 have HSC := Lib.hid hsc
 have HC0 := Lib.hid hc0
 have HLK := Lib.hid hlk
 have HCC := Lib.hid hc
 have HT := Lib.hid hT
 have HLO := Lib.hid hlo
 have HN := Lib.hid hn
 have HBW := Lib.hid hb
 obtain ⟨nb, hnb⟩ : ∃ n, n = W.heap.size := ⟨_, rfl⟩
 have hbx := BlkT.new W #[.int .i64 kind, .slice A2 data.length c2, strV name, .int .i64 nn, .int .i64 keep] 36
 obtain ⟨wb, hwb⟩ : ∃ w, w = W.alloc (.cells #[.int .i64 kind, .slice A2 data.length c2, strV name, .int .i64 nn, .int .i64 keep] 36) := ⟨_, rfl⟩
 have hxb : Ext W wb := by rw [hwb]; exact ext_alloc _ _
 rw [← hwb, ← hnb] at hbx
 have HP := Lib.hid (h.ext hxb)
 have HB := Lib.hid (hb.ext hxb)
 have HBX := Lib.hid hbx
 have HNB := Lib.hid (show ¬ (uni F1 F2 bb ∨ wb.heap.size ≤ bb) from fun hq => hq.elim hn (fun h => Nat.not_lt.2 h (hb.ext hxb).lt))
 have HNX := Lib.hid (show ¬ (uni F1 F2 nb ∨ wb.heap.size ≤ nb) from fun hq => hq.elim (fun h1 => by rw [hnb] at h1; rcases h1 with h1 | h1; exact Nat.lt_irrefl _ (h.s1.lt _ h1); exact Nat.lt_irrefl _ (h.s2.lt _ h1)) (fun h => Nat.not_lt.2 h hbx.lt))
 have HC := Lib.hid (show Cont (uni F1 F2) W (uni F1 F2) wb from (Cont.refl fun _ h => h).ext hxb)
 have HE := Lib.hid hwb
 have HNBE := Lib.hid hnb
 have HLP := Lib.hid hLp
 have HRP := Lib.hid hRp
 clear hbx hxb hnb h hb hn hok hsc ha hnl hwb hdl hlk hc hT hlo hc0 hnn hLp hRp
 -- the cells of the act's box and of both
 have xx : ∀ w, Ext wb w → w.cell? ⟨nb, 0, none⟩ = some (.int .i64 kind) ∧ w.cell? ⟨nb, 1, none⟩ = some (.slice A2 data.length c2) ∧ w.cell? ⟨nb, 2, none⟩ = some (strV name) ∧ w.cell? ⟨nb, 3, none⟩ = some (.int .i64 nn) ∧ w.cell? ⟨nb, 4, none⟩ = some (.int .i64 keep) := fun w he =>
  ⟨(HBX.out.ext he).blk.cell (i := 0) rfl, (HBX.out.ext he).blk.cell (i := 1) rfl, (HBX.out.ext he).blk.cell (i := 2) rfl, (HBX.out.ext he).blk.cell (i := 3) rfl, (HBX.out.ext he).blk.cell (i := 4) rfl⟩
 obtain ⟨x0, x1, x2, x3, x4⟩ := xx wb (Ext.refl _)
 rw [HE.out, HNBE.out] at x0 x1 x2 x3 x4
 clear xx
 by_cases h3 : kind = 3
 ·subst h3
  have HX := Lib.hid (show wAct size (d, ol) ⟨3, name, data, nn, keep⟩ = ((wOpen d size).d, (wOpen d size).l) by unfold wAct; rw [if_pos rfl])
  go_enter Tryz.func10, Tryz.ntmps10
  go_wp2_with fail
  rw [← HE.out, ← HNBE.out]
  rw [← HE.out, ← HNBE.out] at x0 x1 x2 x3 x4
  refine (bopen_any HP.out HT.out HB.out HN.out HLO.out HOK.out HSC.out (by have := HC0.out; omega) HLP.out HRP.out).mono ?_
  rintro e w2 ⟨rfl, hq⟩
  go_wp2_with fail
  go_ret
  rw [HX.out]
  exact BQ.behind HC.out ⟨rfl, hq⟩
 by_cases h4 : kind = 4
 ·subst h4
  have HX := Lib.hid (show wAct size (d, ol) ⟨4, name, data, nn, keep⟩ = (fAct d ⟨4, name, data, nn, keep⟩, ol) by unfold wAct; rw [if_neg (show ¬ ((4 : Int) = 3) by decide), if_pos (show (4 : Int) = 4 ∨ (4 : Int) = 5 by decide)])
  go_enter Tryz.func10, Tryz.ntmps10
  go_wp2_with fail
  rw [← HE.out, ← HNBE.out]
  rw [← HE.out, ← HNBE.out] at x0 x1 x2 x3 x4
  refine (bfiles_any HP.out HB.out HN.out HOK.out HSC.out (by have := HC0.out; omega) 4 name data nn keep HA.out HNL.out HDL.out).mono ?_
  rintro e w2 ⟨rfl, F1', F2', h1, h2⟩
  go_wp2_with fail
  go_ret
  rw [HX.out]
  exact BQ.of h1 (HC.out.trans h2) HBW.out HN.out
 by_cases h5 : kind = 5
 ·subst h5
  have HX := Lib.hid (show wAct size (d, ol) ⟨5, name, data, nn, keep⟩ = (fAct d ⟨5, name, data, nn, keep⟩, ol) by unfold wAct; rw [if_neg (show ¬ ((5 : Int) = 3) by decide), if_pos (show (5 : Int) = 4 ∨ (5 : Int) = 5 by decide)])
  go_enter Tryz.func10, Tryz.ntmps10
  go_wp2_with fail
  rw [← HE.out, ← HNBE.out]
  rw [← HE.out, ← HNBE.out] at x0 x1 x2 x3 x4
  refine (bfiles_any HP.out HB.out HN.out HOK.out HSC.out (by have := HC0.out; omega) 5 name data nn keep HA.out HNL.out HDL.out).mono ?_
  rintro e w2 ⟨rfl, F1', F2', h1, h2⟩
  go_wp2_with fail
  go_ret
  rw [HX.out]
  exact BQ.of h1 (HC.out.trans h2) HBW.out HN.out
 by_cases h6 : kind = 6
 ·subst h6
  have HX := Lib.hid (show wAct size (d, ol) ⟨6, name, data, nn, keep⟩ = ((wOpen (dPower d) size).d, (wOpen (dPower d) size).l) by unfold wAct; rw [if_neg (show ¬ ((6 : Int) = 3) by decide), if_neg (show ¬ ((6 : Int) = 4 ∨ (6 : Int) = 5) by decide), if_pos rfl])
  have b0 := HB.out.blk.cell (i := 0) rfl
  rw [HE.out] at b0
  go_enter Tryz.func10, Tryz.ntmps10
  go_wp2_with fail
  rw [← HE.out, ← HNBE.out]
  have HCL := Lib.hid (HP.out.s1.call (x := (dPower d, 0)) (fun bm pl ms hd => power_post hd))
  clear b0 x0 x1 x2 x3 x4
  refine HCL.out.mono ?_
  rintro e w2 ⟨rfl, F1', hs1, hc1⟩
  have HP1 := Lib.hid (HP.out.one hs1 hc1)
  have HC1 := Lib.hid (HC.out.trans hc1.uni1)
  have HB1 := Lib.hid (hc1.uni1.unis HB.out HN.out)
  have b2 := HB1.out.1.blk.cell (i := 2) rfl
  clear HCL hs1 hc1
  go_wp2_with fail
  have HCL := Lib.hid HP1.out.s2.power
  clear b2
  refine HCL.out.mono ?_
  rintro e w3 ⟨rfl, F2', hs2, hc2⟩
  have HP2 := Lib.hid (HP1.out.two hs2 hc2)
  have HC2 := Lib.hid (HC1.out.trans (hc2.uni2 (F1 := F1')))
  have HB2 := Lib.hid ((hc2.uni2 (F1 := F1')).unis HB1.out.1 HB1.out.2)
  clear HCL hs2 hc2
  go_wp2_with fail
  refine (bopen_any HP2.out HT.out HB2.out.1 HB2.out.2 HLO.out (dPower_ok HOK.out) (dPower_small HSC.out) (by have := HC0.out; omega) HLP.out HRP.out).mono ?_
  rintro e w4 ⟨rfl, hq⟩
  go_wp2_with fail
  go_ret
  rw [HX.out]
  exact BQ.behind HC2.out ⟨rfl, hq⟩
 by_cases h7 : kind = 7
 ·subst h7
  have HX := Lib.hid (show wAct size (d, ol) ⟨7, name, data, nn, keep⟩ = ((wOpen (fAct d ⟨7, name, data, nn, keep⟩) size).d, (wOpen (fAct d ⟨7, name, data, nn, keep⟩) size).l) by unfold wAct; rw [if_neg (show ¬ ((7 : Int) = 3) by decide), if_neg (show ¬ ((7 : Int) = 4 ∨ (7 : Int) = 5) by decide), if_neg (show ¬ ((7 : Int) = 6) by decide), if_pos (show (7 : Int) = 7 ∨ (7 : Int) = 8 ∨ (7 : Int) = 9 by decide)])
  go_enter Tryz.func10, Tryz.ntmps10
  go_wp2_with fail
  rw [← HE.out, ← HNBE.out]
  rw [← HE.out, ← HNBE.out] at x0 x1 x2 x3 x4
  refine (bfiles_any HP.out HB.out HN.out HOK.out HSC.out (by have := HC0.out; omega) 7 name data nn keep HA.out HNL.out HDL.out).mono ?_
  rintro e w2 ⟨rfl, F1', F2', h1, h2⟩
  have HP1 := Lib.hid h1
  have HC1 := Lib.hid (HC.out.trans h2)
  have HB1 := Lib.hid (h2.unis HB.out HN.out)
  clear h1 h2
  go_wp2_with fail
  refine (bopen_any HP1.out HT.out HB1.out.1 HB1.out.2 HLO.out (fAct_ok HOK.out _) (fAct_small HSC.out _ HNN.out) (by have := HC0.out; omega) HLP.out HRP.out).mono ?_
  rintro e w4 ⟨rfl, hq⟩
  go_wp2_with fail
  go_ret
  rw [HX.out]
  exact BQ.behind HC1.out ⟨rfl, hq⟩
 by_cases h8 : kind = 8
 ·subst h8
  have HX := Lib.hid (show wAct size (d, ol) ⟨8, name, data, nn, keep⟩ = ((wOpen (fAct d ⟨8, name, data, nn, keep⟩) size).d, (wOpen (fAct d ⟨8, name, data, nn, keep⟩) size).l) by unfold wAct; rw [if_neg (show ¬ ((8 : Int) = 3) by decide), if_neg (show ¬ ((8 : Int) = 4 ∨ (8 : Int) = 5) by decide), if_neg (show ¬ ((8 : Int) = 6) by decide), if_pos (show (8 : Int) = 7 ∨ (8 : Int) = 8 ∨ (8 : Int) = 9 by decide)])
  go_enter Tryz.func10, Tryz.ntmps10
  go_wp2_with fail
  rw [← HE.out, ← HNBE.out]
  rw [← HE.out, ← HNBE.out] at x0 x1 x2 x3 x4
  refine (bfiles_any HP.out HB.out HN.out HOK.out HSC.out (by have := HC0.out; omega) 8 name data nn keep HA.out HNL.out HDL.out).mono ?_
  rintro e w2 ⟨rfl, F1', F2', h1, h2⟩
  have HP1 := Lib.hid h1
  have HC1 := Lib.hid (HC.out.trans h2)
  have HB1 := Lib.hid (h2.unis HB.out HN.out)
  clear h1 h2
  go_wp2_with fail
  refine (bopen_any HP1.out HT.out HB1.out.1 HB1.out.2 HLO.out (fAct_ok HOK.out _) (fAct_small HSC.out _ HNN.out) (by have := HC0.out; omega) HLP.out HRP.out).mono ?_
  rintro e w4 ⟨rfl, hq⟩
  go_wp2_with fail
  go_ret
  rw [HX.out]
  exact BQ.behind HC1.out ⟨rfl, hq⟩
 by_cases h9 : kind = 9
 ·subst h9
  have HX := Lib.hid (show wAct size (d, ol) ⟨9, name, data, nn, keep⟩ = ((wOpen (fAct d ⟨9, name, data, nn, keep⟩) size).d, (wOpen (fAct d ⟨9, name, data, nn, keep⟩) size).l) by unfold wAct; rw [if_neg (show ¬ ((9 : Int) = 3) by decide), if_neg (show ¬ ((9 : Int) = 4 ∨ (9 : Int) = 5) by decide), if_neg (show ¬ ((9 : Int) = 6) by decide), if_pos (show (9 : Int) = 7 ∨ (9 : Int) = 8 ∨ (9 : Int) = 9 by decide)])
  go_enter Tryz.func10, Tryz.ntmps10
  go_wp2_with fail
  rw [← HE.out, ← HNBE.out]
  rw [← HE.out, ← HNBE.out] at x0 x1 x2 x3 x4
  refine (bfiles_any HP.out HB.out HN.out HOK.out HSC.out (by have := HC0.out; omega) 9 name data nn keep HA.out HNL.out HDL.out).mono ?_
  rintro e w2 ⟨rfl, F1', F2', h1, h2⟩
  have HP1 := Lib.hid h1
  have HC1 := Lib.hid (HC.out.trans h2)
  have HB1 := Lib.hid (h2.unis HB.out HN.out)
  clear h1 h2
  go_wp2_with fail
  refine (bopen_any HP1.out HT.out HB1.out.1 HB1.out.2 HLO.out (fAct_ok HOK.out _) (fAct_small HSC.out _ HNN.out) (by have := HC0.out; omega) HLP.out HRP.out).mono ?_
  rintro e w4 ⟨rfl, hq⟩
  go_wp2_with fail
  go_ret
  rw [HX.out]
  exact BQ.behind HC1.out ⟨rfl, hq⟩
 have b3 := HB.out.blk.cell (i := 3) rfl
 rw [HE.out] at b3
 cases hol : ol with
 | none =>
  subst hol
  obtain rfl := HP.out.s2.nil
  have HX := Lib.hid (show wAct size (d, none) ⟨kind, name, data, nn, keep⟩ = (d, none) by unfold wAct; rw [if_neg h3, if_neg (show ¬ (kind = 4 ∨ kind = 5) from fun h => h.elim h4 h5), if_neg h6, if_neg (show ¬ (kind = 7 ∨ kind = 8 ∨ kind = 9) from fun h => h.elim h7 fun h => h.elim h8 h9)])
  go_enter Tryz.func10, Tryz.ntmps10
  go_wp2_with fail
  go_ret
  rw [HX.out, ← HE.out]
  exact BQ.of HP.out HC.out HBW.out HN.out
 | some l =>
  subst hol
  obtain ⟨bl, rfl⟩ := HP.out.s1.ptr
  obtain ⟨rl, rfl⟩ := HP.out.s2.ptr
  have HLK1 := Lib.hid (HLK.out l rfl)
  by_cases h1 : kind = 1
  ·subst h1
   have HX := Lib.hid (show wAct size (d, some l) ⟨1, name, data, nn, keep⟩ = ((wSync d l).1.1, some (wSync d l).1.2) by unfold wAct; rw [if_neg (show ¬ ((1 : Int) = 3) by decide), if_neg (show ¬ ((1 : Int) = 4 ∨ (1 : Int) = 5) by decide), if_neg (show ¬ ((1 : Int) = 6) by decide), if_neg (show ¬ ((1 : Int) = 7 ∨ (1 : Int) = 8 ∨ (1 : Int) = 9) by decide)]; dsimp only; rw [if_neg (show ¬ ((1 : Int) = 0) by decide)]; rw [if_pos rfl])
   go_enter Tryz.func10, Tryz.ntmps10
   go_upto_region 23 with (fail)
   rw [← HE.out, ← HNBE.out]
   refine wp_region_tok [false, false, false, false, true, false, false, false, false, true, false, false] (Kb (fun k => uni F1 F2 k ∨ wb.heap.size ≤ k)) (fun c w => if c < 1 then WP W0 w bd br F1 F2 d (some l) (.pointer (some ⟨bl, 0, none⟩)) d (some l) (.pointer (some ⟨rl, 0, none⟩)) ∧ Cont (uni F1 F2) wb (uni F1 F2) w else if c < 2 then ∃ F1', WP W0 w bd br F1' F2 (wSync d l).1.1 (some (wSync d l).1.2) (.pointer (some ⟨bl, 0, none⟩)) d (some l) (.pointer (some ⟨rl, 0, none⟩)) ∧ Cont (uni F1 F2) wb (uni F1' F2) w else ∃ F1' F2', WP W0 w bd br F1' F2' (wSync d l).1.1 (some (wSync d l).1.2) (.pointer (some ⟨bl, 0, none⟩)) (wSync d l).1.1 (some (wSync d l).1.2) (.pointer (some ⟨rl, 0, none⟩)) ∧ Cont (uni F1 F2) wb (uni F1' F2') w) 2 (by kernel_rfl) (by kernel_rfl) (by kernel_rfl) (by kernel_rfl) (preKb' _) (Kb.of_ext (ext_drew wb)) ⟨HP.out.ext (ext_drew wb), (Cont.refl fun _ h => h).ext (ext_drew wb)⟩ ?_
   refine tok_val rfl (.pointer (some ⟨bb, 0, none⟩)) (fun _ _ _ => rfl) ?_ ?_
   ·rintro ρ w' he ⟨h0, -⟩
    have e0 : ρ 0 = .pointer (some ⟨bb, 0, none⟩) := h0
    simp [execOp, evR, e0, go_sem]
   refine tok_val rfl (.pointer (some ⟨bb, 0, none⟩)) (fun _ _ _ => rfl) ?_ ?_
   ·rintro ρ w' he ⟨h85, -⟩
    have e85 : ρ 85 = .pointer (some ⟨bb, 0, none⟩) := h85
    simp [execOp, evR, e85, go_sem]
   refine tok_val rfl (.pointer (some ⟨bb, 1, none⟩)) (fun _ _ _ => rfl) ?_ ?_
   ·rintro ρ w' he ⟨h86, -⟩
    have e86 : ρ 86 = .pointer (some ⟨bb, 0, none⟩) := h86
    simp [execOp, evR, e86, go_sem]
   refine tok_val rfl (.pointer (some ⟨bl, 0, none⟩)) (fun _ _ _ => rfl) ?_ ?_
   ·rintro ρ w' he ⟨h87, -⟩
    have e87 : ρ 87 = .pointer (some ⟨bb, 1, none⟩) := h87
    have c := (HB.out.kb he HNB.out).blk.cell (i := 1) rfl
    simp [execOp, evR, e87, c, go_sem]
   refine tok_call rfl rfl Tryz.func30 (by kernel_rfl) (fun v _ => v = .int .i64 ((wSync d l).2 : Int)) (fun _ _ _ h _ => h) (fun _ _ _ => rfl) ?_ ?_
   ·rintro ρ w' he ht ⟨h88, -⟩
    have e88 : ρ 88 = .pointer (some ⟨bl, 0, none⟩) := h88
    simp only [evR, List.map_toArray, List.map_cons, List.map_nil, e88]
    have hp : WP W0 w' bd br F1 F2 d (some l) (.pointer (some ⟨bl, 0, none⟩)) d (some l) (.pointer (some ⟨rl, 0, none⟩)) ∧ Cont (uni F1 F2) wb (uni F1 F2) w' := ht
    refine (hp.1.s1.sync hp.1.hx HT.out HOK.out HSC.out (by have := HC0.out; omega) HLK1.out).mono ?_
    rintro e w2 ⟨rfl, F1', hs, hc⟩
    exact ⟨_, rfl, hc.kb.mono fun _ h => .inl (.inl h), rfl, F1', hp.1.one hs hc, hp.2.trans hc.uni1⟩
   refine tok_val rfl (.pointer (some ⟨bb, 0, none⟩)) (fun _ _ _ => rfl) ?_ ?_
   ·rintro ρ w' he ⟨h0, -⟩
    have e0 : ρ 0 = .pointer (some ⟨bb, 0, none⟩) := h0
    simp [execOp, evR, e0, go_sem]
   refine tok_val rfl (.pointer (some ⟨bb, 0, none⟩)) (fun _ _ _ => rfl) ?_ ?_
   ·rintro ρ w' he ⟨h90, -⟩
    have e90 : ρ 90 = .pointer (some ⟨bb, 0, none⟩) := h90
    simp [execOp, evR, e90, go_sem]
   refine tok_val rfl (.pointer (some ⟨bb, 3, none⟩)) (fun _ _ _ => rfl) ?_ ?_
   ·rintro ρ w' he ⟨h91, -⟩
    have e91 : ρ 91 = .pointer (some ⟨bb, 0, none⟩) := h91
    simp [execOp, evR, e91, go_sem]
   refine tok_val rfl (.pointer (some ⟨rl, 0, none⟩)) (fun _ _ _ => rfl) ?_ ?_
   ·rintro ρ w' he ⟨h92, -⟩
    have e92 : ρ 92 = .pointer (some ⟨bb, 3, none⟩) := h92
    have c := (HB.out.kb he HNB.out).blk.cell (i := 3) rfl
    simp [execOp, evR, e92, c, go_sem]
   refine tok_call rfl rfl Tryz.func31 (by kernel_rfl) (fun v _ => v = .int .i64 ((wSync d l).2 : Int)) (fun _ _ _ h _ => h) (fun _ _ _ => rfl) ?_ ?_
   ·rintro ρ w' he ht ⟨h93, -⟩
    have e93 : ρ 93 = .pointer (some ⟨rl, 0, none⟩) := h93
    simp only [evR, List.map_toArray, List.map_cons, List.map_nil, e93]
    have hp : ∃ F1', WP W0 w' bd br F1' F2 (wSync d l).1.1 (some (wSync d l).1.2) (.pointer (some ⟨bl, 0, none⟩)) d (some l) (.pointer (some ⟨rl, 0, none⟩)) ∧ Cont (uni F1 F2) wb (uni F1' F2) w' := ht
    obtain ⟨F1', hp1, hp2⟩ := hp
    refine (hp1.s2.sync HOK.out HSC.out (by have := HC0.out; omega) HLK1.out).mono ?_
    rintro e w2 ⟨rfl, F2', hs, hc⟩
    exact ⟨_, rfl, hc.kb.mono fun _ h => .inl (.inr h), rfl, F1', F2', hp1.two hs hc, hp2.trans hc.uni2⟩
   refine tok_val rfl (.bool true) (fun _ _ _ => rfl) ?_ ?_
   ·rintro ρ w' he ⟨h89, h94, -⟩
    have e89 : ρ 89 = .int .i64 ((wSync d l).2 : Int) := h89
    have e94 : ρ 94 = .int .i64 ((wSync d l).2 : Int) := h94
    simp [execOp, evR, e89, e94, go_sem]
   refine tok_val rfl (.bool true) (fun _ _ _ => rfl) ?_ ?_
   ·rintro ρ w' he ⟨h95, -⟩
    have e95 : ρ 95 = .bool true := h95
    simp [execOp, evR, e95, go_sem]
   refine tok_nil ?_
   rintro ρ w' hle htk ⟨f4, f95, f94, f93, f92, f91, f90, f89, f88, f87, f86, f85, -⟩ -
   replace f4 : ρ 4 = .bool true := f4
   simp only [puts, Act.put, List.setIfInBounds_toArray, List.set_cons_zero, List.set_cons_succ]
   rw [show ρ 4 = .bool true from f4]
   clear f4 f85 f86 f87 f88 f89 f90 f91 f92 f93 f94 f95
   go_wp2_with fail
   go_ret
   rw [HX.out]
   obtain ⟨F1', F2', h1, h2⟩ := (show ∃ F1' F2', WP W0 w' bd br F1' F2' (wSync d l).1.1 (some (wSync d l).1.2) (.pointer (some ⟨bl, 0, none⟩)) (wSync d l).1.1 (some (wSync d l).1.2) (.pointer (some ⟨rl, 0, none⟩)) ∧ Cont (uni F1 F2) wb (uni F1' F2') w' from htk)
   exact BQ.of h1 (HC.out.trans h2) HBW.out HN.out
  by_cases h2 : kind = 2
  ·subst h2
   have HX := Lib.hid (show wAct size (d, some l) ⟨2, name, data, nn, keep⟩ = ((wRetire d l nn).1.1, some (wRetire d l nn).1.2) by unfold wAct; rw [if_neg (show ¬ ((2 : Int) = 3) by decide), if_neg (show ¬ ((2 : Int) = 4 ∨ (2 : Int) = 5) by decide), if_neg (show ¬ ((2 : Int) = 6) by decide), if_neg (show ¬ ((2 : Int) = 7 ∨ (2 : Int) = 8 ∨ (2 : Int) = 9) by decide)]; dsimp only; rw [if_neg (show ¬ ((2 : Int) = 0) by decide), if_neg (show ¬ ((2 : Int) = 1) by decide)]; rw [if_pos rfl])
   go_enter Tryz.func10, Tryz.ntmps10
   go_upto_region 25 with (fail)
   rw [← HE.out, ← HNBE.out]
   refine wp_region_tok [false, false, false, false, false, false, true, false, false, false, false, false, false, true, false, false] (Kb (fun k => uni F1 F2 k ∨ wb.heap.size ≤ k)) (fun c w => if c < 1 then WP W0 w bd br F1 F2 d (some l) (.pointer (some ⟨bl, 0, none⟩)) d (some l) (.pointer (some ⟨rl, 0, none⟩)) ∧ Cont (uni F1 F2) wb (uni F1 F2) w else if c < 2 then ∃ F1', WP W0 w bd br F1' F2 (wRetire d l nn).1.1 (some (wRetire d l nn).1.2) (.pointer (some ⟨bl, 0, none⟩)) d (some l) (.pointer (some ⟨rl, 0, none⟩)) ∧ Cont (uni F1 F2) wb (uni F1' F2) w else ∃ F1' F2', WP W0 w bd br F1' F2' (wRetire d l nn).1.1 (some (wRetire d l nn).1.2) (.pointer (some ⟨bl, 0, none⟩)) (wRetire d l nn).1.1 (some (wRetire d l nn).1.2) (.pointer (some ⟨rl, 0, none⟩)) ∧ Cont (uni F1 F2) wb (uni F1' F2') w) 2 (by kernel_rfl) (by kernel_rfl) (by kernel_rfl) (by kernel_rfl) (preKb' _) (Kb.of_ext (ext_drew wb)) ⟨HP.out.ext (ext_drew wb), (Cont.refl fun _ h => h).ext (ext_drew wb)⟩ ?_
   refine tok_val rfl (.pointer (some ⟨bb, 0, none⟩)) (fun _ _ _ => rfl) ?_ ?_
   ·rintro ρ w' he ⟨h0, -⟩
    have e0 : ρ 0 = .pointer (some ⟨bb, 0, none⟩) := h0
    simp [execOp, evR, e0, go_sem]
   refine tok_val rfl (.pointer (some ⟨bb, 0, none⟩)) (fun _ _ _ => rfl) ?_ ?_
   ·rintro ρ w' he ⟨h98, -⟩
    have e98 : ρ 98 = .pointer (some ⟨bb, 0, none⟩) := h98
    simp [execOp, evR, e98, go_sem]
   refine tok_val rfl (.pointer (some ⟨bb, 1, none⟩)) (fun _ _ _ => rfl) ?_ ?_
   ·rintro ρ w' he ⟨h99, -⟩
    have e99 : ρ 99 = .pointer (some ⟨bb, 0, none⟩) := h99
    simp [execOp, evR, e99, go_sem]
   refine tok_val rfl (.pointer (some ⟨bl, 0, none⟩)) (fun _ _ _ => rfl) ?_ ?_
   ·rintro ρ w' he ⟨h100, -⟩
    have e100 : ρ 100 = .pointer (some ⟨bb, 1, none⟩) := h100
    have c := (HB.out.kb he HNB.out).blk.cell (i := 1) rfl
    simp [execOp, evR, e100, c, go_sem]
   refine tok_val rfl (.pointer (some ⟨nb, 3, none⟩)) (fun _ _ _ => rfl) ?_ ?_
   ·rintro ρ w' he ⟨h3, -⟩
    have e3 : ρ 3 = .pointer (some ⟨nb, 0, none⟩) := h3
    simp [execOp, evR, e3, go_sem]
   refine tok_val rfl (.int .i64 nn) (fun _ _ _ => rfl) ?_ ?_
   ·rintro ρ w' he ⟨h102, -⟩
    have e102 : ρ 102 = .pointer (some ⟨nb, 3, none⟩) := h102
    have c := (HBX.out.kb he HNX.out).blk.cell (i := 3) rfl
    simp [execOp, evR, e102, c, go_sem]
   refine tok_call rfl rfl Tryz.func32 (by kernel_rfl) (fun v _ => v = .int .i64 ((wRetire d l nn).2 : Int)) (fun _ _ _ h _ => h) (fun _ _ _ => rfl) ?_ ?_
   ·rintro ρ w' he ht ⟨h101, h103, -⟩
    have e101 : ρ 101 = .pointer (some ⟨bl, 0, none⟩) := h101
    have e103 : ρ 103 = .int .i64 nn := h103
    simp only [evR, List.map_toArray, List.map_cons, List.map_nil, e101, e103]
    have hp : WP W0 w' bd br F1 F2 d (some l) (.pointer (some ⟨bl, 0, none⟩)) d (some l) (.pointer (some ⟨rl, 0, none⟩)) ∧ Cont (uni F1 F2) wb (uni F1 F2) w' := ht
    refine (hp.1.s1.retire hp.1.hx HT.out HOK.out HSC.out HC0.out HLK1.out HCC.out nn).mono ?_
    rintro e w2 ⟨rfl, F1', hs, hc⟩
    exact ⟨_, rfl, hc.kb.mono fun _ h => .inl (.inl h), rfl, F1', hp.1.one hs hc, hp.2.trans hc.uni1⟩
   refine tok_val rfl (.pointer (some ⟨bb, 0, none⟩)) (fun _ _ _ => rfl) ?_ ?_
   ·rintro ρ w' he ⟨h0, -⟩
    have e0 : ρ 0 = .pointer (some ⟨bb, 0, none⟩) := h0
    simp [execOp, evR, e0, go_sem]
   refine tok_val rfl (.pointer (some ⟨bb, 0, none⟩)) (fun _ _ _ => rfl) ?_ ?_
   ·rintro ρ w' he ⟨h105, -⟩
    have e105 : ρ 105 = .pointer (some ⟨bb, 0, none⟩) := h105
    simp [execOp, evR, e105, go_sem]
   refine tok_val rfl (.pointer (some ⟨bb, 3, none⟩)) (fun _ _ _ => rfl) ?_ ?_
   ·rintro ρ w' he ⟨h106, -⟩
    have e106 : ρ 106 = .pointer (some ⟨bb, 0, none⟩) := h106
    simp [execOp, evR, e106, go_sem]
   refine tok_val rfl (.pointer (some ⟨rl, 0, none⟩)) (fun _ _ _ => rfl) ?_ ?_
   ·rintro ρ w' he ⟨h107, -⟩
    have e107 : ρ 107 = .pointer (some ⟨bb, 3, none⟩) := h107
    have c := (HB.out.kb he HNB.out).blk.cell (i := 3) rfl
    simp [execOp, evR, e107, c, go_sem]
   refine tok_val rfl (.pointer (some ⟨nb, 3, none⟩)) (fun _ _ _ => rfl) ?_ ?_
   ·rintro ρ w' he ⟨h3, -⟩
    have e3 : ρ 3 = .pointer (some ⟨nb, 0, none⟩) := h3
    simp [execOp, evR, e3, go_sem]
   refine tok_val rfl (.int .i64 nn) (fun _ _ _ => rfl) ?_ ?_
   ·rintro ρ w' he ⟨h109, -⟩
    have e109 : ρ 109 = .pointer (some ⟨nb, 3, none⟩) := h109
    have c := (HBX.out.kb he HNX.out).blk.cell (i := 3) rfl
    simp [execOp, evR, e109, c, go_sem]
   refine tok_call rfl rfl Tryz.func33 (by kernel_rfl) (fun v _ => v = .int .i64 ((wRetire d l nn).2 : Int)) (fun _ _ _ h _ => h) (fun _ _ _ => rfl) ?_ ?_
   ·rintro ρ w' he ht ⟨h108, h110, -⟩
    have e108 : ρ 108 = .pointer (some ⟨rl, 0, none⟩) := h108
    have e110 : ρ 110 = .int .i64 nn := h110
    simp only [evR, List.map_toArray, List.map_cons, List.map_nil, e108, e110]
    have hp : ∃ F1', WP W0 w' bd br F1' F2 (wRetire d l nn).1.1 (some (wRetire d l nn).1.2) (.pointer (some ⟨bl, 0, none⟩)) d (some l) (.pointer (some ⟨rl, 0, none⟩)) ∧ Cont (uni F1 F2) wb (uni F1' F2) w' := ht
    obtain ⟨F1', hp1, hp2⟩ := hp
    refine (hp1.s2.retire HOK.out HSC.out HC0.out HLK1.out HCC.out nn).mono ?_
    rintro e w2 ⟨rfl, F2', hs, hc⟩
    exact ⟨_, rfl, hc.kb.mono fun _ h => .inl (.inr h), rfl, F1', F2', hp1.two hs hc, hp2.trans hc.uni2⟩
   refine tok_val rfl (.bool true) (fun _ _ _ => rfl) ?_ ?_
   ·rintro ρ w' he ⟨h104, h111, -⟩
    have e104 : ρ 104 = .int .i64 ((wRetire d l nn).2 : Int) := h104
    have e111 : ρ 111 = .int .i64 ((wRetire d l nn).2 : Int) := h111
    simp [execOp, evR, e104, e111, go_sem]
   refine tok_val rfl (.bool true) (fun _ _ _ => rfl) ?_ ?_
   ·rintro ρ w' he ⟨h112, -⟩
    have e112 : ρ 112 = .bool true := h112
    simp [execOp, evR, e112, go_sem]
   refine tok_nil ?_
   rintro ρ w' hle htk ⟨f4, f112, f111, f110, f109, f108, f107, f106, f105, f104, f103, f102, f101, f100, f99, f98, -⟩ -
   replace f4 : ρ 4 = .bool true := f4
   simp only [puts, Act.put, List.setIfInBounds_toArray, List.set_cons_zero, List.set_cons_succ]
   rw [show ρ 4 = .bool true from f4]
   clear f4 f98 f99 f100 f101 f102 f103 f104 f105 f106 f107 f108 f109 f110 f111 f112
   go_wp2_with fail
   go_ret
   rw [HX.out]
   obtain ⟨F1', F2', h1, h2⟩ := (show ∃ F1' F2', WP W0 w' bd br F1' F2' (wRetire d l nn).1.1 (some (wRetire d l nn).1.2) (.pointer (some ⟨bl, 0, none⟩)) (wRetire d l nn).1.1 (some (wRetire d l nn).1.2) (.pointer (some ⟨rl, 0, none⟩)) ∧ Cont (uni F1 F2) wb (uni F1' F2') w' from htk)
   exact BQ.of h1 (HC.out.trans h2) HBW.out HN.out
  by_cases h0 : kind = 0
  ·subst h0
   have HX := Lib.hid (show wAct size (d, some l) ⟨0, name, data, nn, keep⟩ = ((wAppend d l data).1.1, some (wAppend d l data).1.2) by unfold wAct; rw [if_neg (show ¬ ((0 : Int) = 3) by decide), if_neg (show ¬ ((0 : Int) = 4 ∨ (0 : Int) = 5) by decide), if_neg (show ¬ ((0 : Int) = 6) by decide), if_neg (show ¬ ((0 : Int) = 7 ∨ (0 : Int) = 8 ∨ (0 : Int) = 9) by decide)]; dsimp only; rw [if_pos rfl])
   go_enter Tryz.func10, Tryz.ntmps10
   go_upto_region 19 with (fail)
   rw [← HE.out, ← HNBE.out]
   refine wp_region_tok [false, false, false, false, false, false, true, false, false, false, false, false] (Kb (fun k => uni F1 F2 k ∨ wb.heap.size ≤ k)) (fun c w => if c < 1 then WP W0 w bd br F1 F2 d (some l) (.pointer (some ⟨bl, 0, none⟩)) d (some l) (.pointer (some ⟨rl, 0, none⟩)) ∧ Cont (uni F1 F2) wb (uni F1 F2) w else ∃ F1', WP W0 w bd br F1' F2 (wAppend d l data).1.1 (some (wAppend d l data).1.2) (.pointer (some ⟨bl, 0, none⟩)) d (some l) (.pointer (some ⟨rl, 0, none⟩)) ∧ Cont (uni F1 F2) wb (uni F1' F2) w) 1 (by kernel_rfl) (by kernel_rfl) (by kernel_rfl) (by kernel_rfl) (preKb' _) (Kb.of_ext (ext_drew wb)) ⟨HP.out.ext (ext_drew wb), (Cont.refl fun _ h => h).ext (ext_drew wb)⟩ ?_
   refine tok_val rfl (.pointer (some ⟨bb, 0, none⟩)) (fun _ _ _ => rfl) ?_ ?_
   ·rintro ρ w' he ⟨h0, -⟩
    have e0 : ρ 0 = .pointer (some ⟨bb, 0, none⟩) := h0
    simp [execOp, evR, e0, go_sem]
   refine tok_val rfl (.pointer (some ⟨bb, 0, none⟩)) (fun _ _ _ => rfl) ?_ ?_
   ·rintro ρ w' he ⟨h56, -⟩
    have e56 : ρ 56 = .pointer (some ⟨bb, 0, none⟩) := h56
    simp [execOp, evR, e56, go_sem]
   refine tok_val rfl (.pointer (some ⟨bb, 1, none⟩)) (fun _ _ _ => rfl) ?_ ?_
   ·rintro ρ w' he ⟨h57, -⟩
    have e57 : ρ 57 = .pointer (some ⟨bb, 0, none⟩) := h57
    simp [execOp, evR, e57, go_sem]
   refine tok_val rfl (.pointer (some ⟨bl, 0, none⟩)) (fun _ _ _ => rfl) ?_ ?_
   ·rintro ρ w' he ⟨h58, -⟩
    have e58 : ρ 58 = .pointer (some ⟨bb, 1, none⟩) := h58
    have c := (HB.out.kb he HNB.out).blk.cell (i := 1) rfl
    simp [execOp, evR, e58, c, go_sem]
   refine tok_val rfl (.pointer (some ⟨nb, 1, none⟩)) (fun _ _ _ => rfl) ?_ ?_
   ·rintro ρ w' he ⟨h3, -⟩
    have e3 : ρ 3 = .pointer (some ⟨nb, 0, none⟩) := h3
    simp [execOp, evR, e3, go_sem]
   refine tok_val rfl (.slice A2 data.length c2) (fun _ _ _ => rfl) ?_ ?_
   ·rintro ρ w' he ⟨h60, -⟩
    have e60 : ρ 60 = .pointer (some ⟨nb, 1, none⟩) := h60
    have c := (HBX.out.kb he HNX.out).blk.cell (i := 1) rfl
    simp [execOp, evR, e60, c, go_sem]
   refine tok_call rfl rfl Tryz.func13 (by kernel_rfl) (fun v _ => v = .tuple #[.int .i64 ((wAppend d l data).2.1 : Int), .int .i64 ((wAppend d l data).2.2 : Int)]) (fun _ _ _ h _ => h) (fun _ _ _ => rfl) ?_ ?_
   ·rintro ρ w' he ht ⟨h59, h61, -⟩
    have e59 : ρ 59 = .pointer (some ⟨bl, 0, none⟩) := h59
    have e61 : ρ 61 = .slice A2 data.length c2 := h61
    simp only [evR, List.map_toArray, List.map_cons, List.map_nil, e59, e61]
    have hp : WP W0 w' bd br F1 F2 d (some l) (.pointer (some ⟨bl, 0, none⟩)) d (some l) (.pointer (some ⟨rl, 0, none⟩)) ∧ Cont (uni F1 F2) wb (uni F1 F2) w' := ht
    refine (hp.1.s1.append hp.1.hx HT.out HOK.out HSC.out (by have := HC0.out; omega) HLK1.out HCC.out HA.out).mono ?_
    rintro e w2 ⟨rfl, F1', hs, hc⟩
    exact ⟨_, rfl, hc.kb.mono fun _ h => .inl (.inl h), rfl, F1', hp.1.one hs hc, hp.2.trans hc.uni1⟩
   refine tok_val rfl (.tuple #[.int .i64 ((wAppend d l data).2.1 : Int), .int .i64 ((wAppend d l data).2.2 : Int)]) (fun _ _ _ => rfl) ?_ ?_
   ·rintro ρ w' he ⟨h62, -⟩
    have e62 : ρ 62 = .tuple #[.int .i64 ((wAppend d l data).2.1 : Int), .int .i64 ((wAppend d l data).2.2 : Int)] := h62
    simp [execOp, evR, e62, go_sem]
   refine tok_val rfl (.int .i64 ((wAppend d l data).2.1 : Int)) (fun _ _ _ => rfl) ?_ ?_
   ·rintro ρ w' he ⟨h55, -⟩
    have e55 : ρ 55 = .tuple #[.int .i64 ((wAppend d l data).2.1 : Int), .int .i64 ((wAppend d l data).2.2 : Int)] := h55
    simp [execOp, evR, e55, go_sem]
   refine tok_val rfl (.int .i64 ((wAppend d l data).2.2 : Int)) (fun _ _ _ => rfl) ?_ ?_
   ·rintro ρ w' he ⟨h55, -⟩
    have e55 : ρ 55 = .tuple #[.int .i64 ((wAppend d l data).2.1 : Int), .int .i64 ((wAppend d l data).2.2 : Int)] := h55
    simp [execOp, evR, e55, go_sem]
   refine tok_val rfl (.int .i64 ((wAppend d l data).2.1 : Int)) (fun _ _ _ => rfl) ?_ ?_
   ·rintro ρ w' he ⟨h63, -⟩
    have e63 : ρ 63 = .int .i64 ((wAppend d l data).2.1 : Int) := h63
    simp [execOp, evR, e63, go_sem]
   refine tok_val rfl (.int .i64 ((wAppend d l data).2.2 : Int)) (fun _ _ _ => rfl) ?_ ?_
   ·rintro ρ w' he ⟨h64, -⟩
    have e64 : ρ 64 = .int .i64 ((wAppend d l data).2.2 : Int) := h64
    simp [execOp, evR, e64, go_sem]
   refine tok_nil ?_
   rintro ρ w' hle htk ⟨f6, f5, f64, f63, f55, f62, f61, f60, f59, f58, f57, f56, -⟩ -
   replace f5 : ρ 5 = .int .i64 ((wAppend d l data).2.1 : Int) := f5
   replace f6 : ρ 6 = .int .i64 ((wAppend d l data).2.2 : Int) := f6
   simp only [puts, Act.put, List.setIfInBounds_toArray, List.set_cons_zero, List.set_cons_succ]
   rw [f5, f6]
   clear f5 f6 f55 f56 f57 f58 f59 f60 f61 f62 f63 f64
   obtain ⟨F1', h1, h2⟩ := (show ∃ F1', WP W0 w' bd br F1' F2 (wAppend d l data).1.1 (some (wAppend d l data).1.2) (.pointer (some ⟨bl, 0, none⟩)) d (some l) (.pointer (some ⟨rl, 0, none⟩)) ∧ Cont (uni F1 F2) wb (uni F1' F2) w' from htk)
   obtain ⟨w1, hw1⟩ : ∃ w1, w1 = w' := ⟨_, rfl⟩
   rw [← hw1] at h1 h2 ⊢
   have HP1 := Lib.hid h1
   have HC1 := Lib.hid (HC.out.trans h2)
   have HB1 := Lib.hid (h2.unis HB.out HN.out)
   have HBX1 := Lib.hid (h2.unis HBX.out (fun h => HNX.out (.inl h)))
   have HNB1 := Lib.hid (show ¬ (uni F1' F2 bb ∨ w1.heap.size ≤ bb) from fun hq => hq.elim HB1.out.2 (fun h => Nat.not_lt.2 h HB1.out.1.lt))
   have HNX1 := Lib.hid (show ¬ (uni F1' F2 nb ∨ w1.heap.size ≤ nb) from fun hq => hq.elim HBX1.out.2 (fun h => Nat.not_lt.2 h HBX1.out.1.lt))
   clear h1 h2 hw1 htk hle x0 x1 x2 x3 x4 b3
   go_wp2_with fail
   refine wp_region_tok [false, false, false, false, false, false, true, false, false, false, false, false] (Kb (fun k => uni F1' F2 k ∨ w1.heap.size ≤ k)) (fun c w => if c < 1 then WP W0 w bd br F1' F2 (wAppend d l data).1.1 (some (wAppend d l data).1.2) (.pointer (some ⟨bl, 0, none⟩)) d (some l) (.pointer (some ⟨rl, 0, none⟩)) ∧ Cont (uni F1' F2) w1 (uni F1' F2) w else ∃ F2', WP W0 w bd br F1' F2' (wAppend d l data).1.1 (some (wAppend d l data).1.2) (.pointer (some ⟨bl, 0, none⟩)) (wAppend d l data).1.1 (some (wAppend d l data).1.2) (.pointer (some ⟨rl, 0, none⟩)) ∧ Cont (uni F1' F2) w1 (uni F1' F2') w) 1 (by kernel_rfl) (by kernel_rfl) (by kernel_rfl) (by kernel_rfl) (preKb' _) (Kb.of_ext (ext_drew w1)) ⟨HP1.out.ext (ext_drew w1), (Cont.refl fun _ h => h).ext (ext_drew w1)⟩ ?_
   refine tok_val rfl (.pointer (some ⟨bb, 0, none⟩)) (fun _ _ _ => rfl) ?_ ?_
   ·rintro ρ w' he ⟨h0, -⟩
    have e0 : ρ 0 = .pointer (some ⟨bb, 0, none⟩) := h0
    simp [execOp, evR, e0, go_sem]
   refine tok_val rfl (.pointer (some ⟨bb, 0, none⟩)) (fun _ _ _ => rfl) ?_ ?_
   ·rintro ρ w' he ⟨h66, -⟩
    have e66 : ρ 66 = .pointer (some ⟨bb, 0, none⟩) := h66
    simp [execOp, evR, e66, go_sem]
   refine tok_val rfl (.pointer (some ⟨bb, 3, none⟩)) (fun _ _ _ => rfl) ?_ ?_
   ·rintro ρ w' he ⟨h67, -⟩
    have e67 : ρ 67 = .pointer (some ⟨bb, 0, none⟩) := h67
    simp [execOp, evR, e67, go_sem]
   refine tok_val rfl (.pointer (some ⟨rl, 0, none⟩)) (fun _ _ _ => rfl) ?_ ?_
   ·rintro ρ w' he ⟨h68, -⟩
    have e68 : ρ 68 = .pointer (some ⟨bb, 3, none⟩) := h68
    have c := (HB1.out.1.kb he HNB1.out).blk.cell (i := 3) rfl
    simp [execOp, evR, e68, c, go_sem]
   refine tok_val rfl (.pointer (some ⟨nb, 1, none⟩)) (fun _ _ _ => rfl) ?_ ?_
   ·rintro ρ w' he ⟨h3, -⟩
    have e3 : ρ 3 = .pointer (some ⟨nb, 0, none⟩) := h3
    simp [execOp, evR, e3, go_sem]
   refine tok_val rfl (.slice A2 data.length c2) (fun _ _ _ => rfl) ?_ ?_
   ·rintro ρ w' he ⟨h70, -⟩
    have e70 : ρ 70 = .pointer (some ⟨nb, 1, none⟩) := h70
    have c := (HBX1.out.1.kb he HNX1.out).blk.cell (i := 1) rfl
    simp [execOp, evR, e70, c, go_sem]
   refine tok_call rfl rfl Tryz.func29 (by kernel_rfl) (fun v _ => v = .tuple #[.int .i64 ((wAppend d l data).2.1 : Int), .int .i64 ((wAppend d l data).2.2 : Int)]) (fun _ _ _ h _ => h) (fun _ _ _ => rfl) ?_ ?_
   ·rintro ρ w' he ht ⟨h69, h71, -⟩
    have e69 : ρ 69 = .pointer (some ⟨rl, 0, none⟩) := h69
    have e71 : ρ 71 = .slice A2 data.length c2 := h71
    simp only [evR, List.map_toArray, List.map_cons, List.map_nil, e69, e71]
    have hp : WP W0 w' bd br F1' F2 (wAppend d l data).1.1 (some (wAppend d l data).1.2) (.pointer (some ⟨bl, 0, none⟩)) d (some l) (.pointer (some ⟨rl, 0, none⟩)) ∧ Cont (uni F1' F2) w1 (uni F1' F2) w' := ht
    refine (hp.1.s2.append hp.1.hx HOK.out HSC.out (by have := HC0.out; omega) HLK1.out HCC.out HA.out).mono ?_
    rintro e w2 ⟨rfl, F2', hs, hc⟩
    exact ⟨_, rfl, hc.kb.mono fun _ h => .inl (.inr h), rfl, F2', hp.1.two hs hc, hp.2.trans hc.uni2⟩
   refine tok_val rfl (.tuple #[.int .i64 ((wAppend d l data).2.1 : Int), .int .i64 ((wAppend d l data).2.2 : Int)]) (fun _ _ _ => rfl) ?_ ?_
   ·rintro ρ w' he ⟨h72, -⟩
    have e72 : ρ 72 = .tuple #[.int .i64 ((wAppend d l data).2.1 : Int), .int .i64 ((wAppend d l data).2.2 : Int)] := h72
    simp [execOp, evR, e72, go_sem]
   refine tok_val rfl (.int .i64 ((wAppend d l data).2.1 : Int)) (fun _ _ _ => rfl) ?_ ?_
   ·rintro ρ w' he ⟨h65, -⟩
    have e65 : ρ 65 = .tuple #[.int .i64 ((wAppend d l data).2.1 : Int), .int .i64 ((wAppend d l data).2.2 : Int)] := h65
    simp [execOp, evR, e65, go_sem]
   refine tok_val rfl (.int .i64 ((wAppend d l data).2.2 : Int)) (fun _ _ _ => rfl) ?_ ?_
   ·rintro ρ w' he ⟨h65, -⟩
    have e65 : ρ 65 = .tuple #[.int .i64 ((wAppend d l data).2.1 : Int), .int .i64 ((wAppend d l data).2.2 : Int)] := h65
    simp [execOp, evR, e65, go_sem]
   refine tok_val rfl (.int .i64 ((wAppend d l data).2.1 : Int)) (fun _ _ _ => rfl) ?_ ?_
   ·rintro ρ w' he ⟨h73, -⟩
    have e73 : ρ 73 = .int .i64 ((wAppend d l data).2.1 : Int) := h73
    simp [execOp, evR, e73, go_sem]
   refine tok_val rfl (.int .i64 ((wAppend d l data).2.2 : Int)) (fun _ _ _ => rfl) ?_ ?_
   ·rintro ρ w' he ⟨h74, -⟩
    have e74 : ρ 74 = .int .i64 ((wAppend d l data).2.2 : Int) := h74
    simp [execOp, evR, e74, go_sem]
   refine tok_nil ?_
   rintro ρ w' hle htk ⟨f8, f7, f74, f73, f65, f72, f71, f70, f69, f68, f67, f66, -⟩ -
   replace f7 : ρ 7 = .int .i64 ((wAppend d l data).2.1 : Int) := f7
   replace f8 : ρ 8 = .int .i64 ((wAppend d l data).2.2 : Int) := f8
   simp only [puts, Act.put, List.setIfInBounds_toArray, List.set_cons_zero, List.set_cons_succ]
   rw [f7, f8]
   clear f7 f8 f65 f66 f67 f68 f69 f70 f71 f72 f73 f74
   go_wp2_with fail
   go_ret
   rw [HX.out]
   obtain ⟨F2', h1, h2⟩ := (show ∃ F2', WP W0 w' bd br F1' F2' (wAppend d l data).1.1 (some (wAppend d l data).1.2) (.pointer (some ⟨bl, 0, none⟩)) (wAppend d l data).1.1 (some (wAppend d l data).1.2) (.pointer (some ⟨rl, 0, none⟩)) ∧ Cont (uni F1' F2) w1 (uni F1' F2') w' from htk)
   exact BQ.of h1 (HC1.out.trans h2) HBW.out HN.out
  have HX := Lib.hid (show wAct size (d, some l) ⟨kind, name, data, nn, keep⟩ = (d, some l) by unfold wAct; rw [if_neg h3, if_neg (show ¬ (kind = 4 ∨ kind = 5) from fun h => h.elim h4 h5), if_neg h6, if_neg (show ¬ (kind = 7 ∨ kind = 8 ∨ kind = 9) from fun h => h.elim h7 fun h => h.elim h8 h9)]; dsimp only; rw [if_neg h0, if_neg h1, if_neg h2])
  go_enter Tryz.func10, Tryz.ntmps10
  go_wp2_with fail
  go_ret
  rw [HX.out, ← HE.out]
  exact BQ.of HP.out HC.out HBW.out HN.out
end Go.Proofs.YtagghghoimpofaaGreatDoor

/-
 Layer 16: the walk of WalPlays.
-/
namespace Go.Proofs.YtagghghoimpofaaGreatDoor
open Go Go.RowKit Mono
set_option linter.unusedVariables false
set_option linter.unusedSimpArgs false
set_option maxRecDepth 100000
set_option maxHeartbeats 4000000

theorem wRetireF_lok : ∀ (k : Nat) {c : Nat} {d : Dk} {l : Lg} (h : LOk c l) (lsn : Int), LOk c (wRetireF k d l lsn).1.2
 | 0, c, d, l, h, lsn => h
 | k + 1, c, d, l, h, lsn => by
  rw [wRetireF]
  split
  ·rename_i s t r hs
   split
   ·split
    ·exact h
    ·refine wRetireF_lok k ?_ lsn
     have hla : ({ l with segs := t :: r } : Lg).last = l.last := by unfold Lg.last; rw [hs]; rfl
     refine ⟨by simp, fun x hx => h.frm x (by rw [hs]; exact List.mem_cons_of_mem _ hx), ?_, ?_, ?_⟩
     ·unfold Lg.next
      rw [hla]
      exact h.nx
     ·rw [hla]
      exact h.bytes
     ·have := h.len
      rw [hs] at this
      simp at this ⊢
      omega
   ·exact h
  ·exact h
theorem wRetire_lok {c : Nat} {d : Dk} {l : Lg} (h : LOk c l) (lsn : Int) : LOk c (wRetire d l lsn).1.2 := by
 unfold wRetire
 split
 ·exact h
 ·exact wRetireF_lok _ h lsn
theorem wAct_ok {d : Dk} {ol : Option Lg} (h : d.Ok) (size : Int) (a : WAct) : (wAct size (d, ol) a).1.Ok := by
 unfold wAct
 split
 ·exact wOpen_ok h _
 split
 ·exact fAct_ok h a
 split
 ·exact wOpen_ok (dPower_ok h) _
 split
 ·exact wOpen_ok (fAct_ok h a) _
 cases ol with
 | none => exact h
 | some l =>
  dsimp only
  split
  ·exact wAppend_ok h l _
  split
  ·exact wSync_ok h l
  split
  ·exact wRetire_ok h l _
  ·exact h
theorem wAct_small {c k : Nat} {d : Dk} {ol : Option Lg} (h : d.SmallC c) (hl : ∀ l, ol = some l → LOk k l) (size : Int) (a : WAct) (hn : a.n < 9223372036854775808) : (wAct size (d, ol) a).1.SmallC (c + 100 + k) := by
 unfold wAct
 split
 ·exact (wOpen_small h _).more (by omega)
 split
 ·exact (fAct_small h a hn).more (by omega)
 split
 ·exact (wOpen_small (dPower_small h) _).more (by omega)
 split
 ·exact (wOpen_small (fAct_small h a hn) _).more (by omega)
 cases ol with
 | none => exact h.more (by omega)
 | some l =>
  have hlen := (hl l rfl).len
  dsimp only
  split
  ·exact (wAppend_small h l _).more (by omega)
  split
  ·exact (wSync_small h l).more (by omega)
  split
  ·exact (wRetire_small h l _).more (by omega)
  ·exact h.more (by omega)
theorem wAct_lok {k : Nat} {d : Dk} {ol : Option Lg} (h : d.Ok) (hl : ∀ l, ol = some l → LOk k l) (size : Int) (a : WAct) : ∀ l', (wAct size (d, ol) a).2 = some l' → LOk (k + 2) l' := by
 intro l' he
 unfold wAct at he
 split at he
 ·exact (wOpen_lok h size he).more (by omega)
 split at he
 ·exact (hl l' he).more (by omega)
 split at he
 ·exact (wOpen_lok (dPower_ok h) size he).more (by omega)
 split at he
 ·exact (wOpen_lok (fAct_ok h a) size he).more (by omega)
 cases ol with
 | none => cases he
 | some l =>
  have hlk := hl l rfl
  dsimp only at he
  split at he
  ·injection he with he
   exact he ▸ wAppend_lok hlk
  split at he
  ·injection he with he
   exact he ▸ (wSync_lok hlk).more (by omega)
  split at he
  ·injection he with he
   exact he ▸ (wRetire_lok hlk _).more (by omega)
  ·injection he with he
   exact he ▸ hlk.more (by omega)
theorem wasum_at {l : List (WAct × Value)} {k : Nat} {x : WAct × Value} (h : l[k]? = some x) : x.1.data.length ≤ wasum l := by
 have h1 := wasum_take h
 have h2 := wasum_take_le l (k + 1)
 omega
/-- What stands while acts go on. -/
def PlayI (W : World) (bb bd br : Nat) (size : Int) (k : Nat) (wr : World) : Prop := ∃ (d : Dk) (ol : Option Lg) (F1 F2 : Nat → Prop) (L R : Value), WP W wr bd br F1 F2 d ol L d ol R ∧ BlkT wr bb 31 [.pointer (some ⟨bd, 0, none⟩), L, .pointer (some ⟨br, 0, none⟩), R, .int .i64 size] ∧ ¬ uni F1 F2 bb ∧ d.Ok ∧ d.SmallC (1000 * k + 10) ∧ ∀ l, ol = some l → LOk (2 * k) l
theorem walPlays_walk (room size : Int) (v : Value) (ls : List (WAct × Value)) (W : World) (hT : TbW W) (hv : WAs W v ls) :
  Calls Tryz.prog 3 #[.int .i64 room, .int .i64 size, v] W fun e w' => e = .returned (.bool true) ∧ Ext W w' := by
 obtain ⟨A, c, rfl, g1, g2, g4⟩ := hv.at_
 have H4 := Lib.hid g4
 have HV := Lib.hid hv
 have HT := Lib.hid hT
 have HLV := Lib.hid (fun w (h : Ext W w) => wlives_any w (hT.ext h))
 unfold maxLen at g2
 clear g4 hv hT
 by_cases hr : room < 0 ∨ 1073741824 < room
 ·have HD := Lib.hid (dkNew_bad room W hr)
  have HR := Lib.hid (rnew_bad room W hr)
  clear hr
  go_enter Tryz.func3, Tryz.ntmps3
  go_wp2_with fail
  refine HD.out.mono ?_
  rintro e w1 ⟨rfl, rfl⟩
  go_wp2_with fail
  refine HR.out.mono ?_
  rintro e w2 ⟨rfl, rfl⟩
  have hb := BlkT.new w2 #[.pointer none, .pointer none, .pointer none, .pointer none, .int .i64 size] 31
  have hxb := ext_alloc w2 (.cells #[.pointer none, .pointer none, .pointer none, .pointer none, .int .i64 size] 31)
  obtain ⟨bb, hbb⟩ : ∃ b, b = w2.heap.size := ⟨_, rfl⟩
  obtain ⟨wb, hwb⟩ : ∃ w, w = w2.alloc (.cells #[.pointer none, .pointer none, .pointer none, .pointer none, .int .i64 size] 31) := ⟨_, rfl⟩
  rw [← hbb, ← hwb] at hb
  rw [← hwb] at hxb
  have HB := Lib.hid hb.blk
  have HXB := Lib.hid hxb
  have HE := Lib.hid hwb
  have HBE := Lib.hid hbb
  clear hb hxb hwb hbb HD HR
  go_upto_region 2 with (fail)
  rw [← HE.out, ← HBE.out]
  refine wp_region_mono (by kernel_rfl) (by kernel_rfl) ?_
  refine tele_move rfl (.inl rfl) rfl (isV (.pointer (some ⟨bb, 0, none⟩))) (fun ρ w' h => h) ?_
  refine tele_val rfl (.pointer (some ⟨bb, 0, none⟩)) (fun _ _ _ => rfl) ?_ ?_
  ·rintro ρ w' he ⟨h17, -⟩
   have e17 : ρ 17 = (.pointer (some ⟨bb, 0, none⟩)) := h17
   simp [execOp, evR, e17, go_sem]
  refine tele_val rfl (.pointer (some ⟨bb, 0, none⟩)) (fun _ _ _ => rfl) ?_ ?_
  ·rintro ρ w' he ⟨h18, -⟩
   have e18 : ρ 18 = (.pointer (some ⟨bb, 0, none⟩)) := h18
   simp [execOp, evR, e18, go_sem]
  refine tele_val rfl (.pointer none) (fun _ _ _ => rfl) ?_ ?_
  ·rintro ρ w' he ⟨h19, -⟩
   have e19 : ρ 19 = (.pointer (some ⟨bb, 0, none⟩)) := h19
   have c := (HB.out.ext he).cell (i := 0) rfl
   simp [execOp, evR, e19, c, go_sem]
  refine tele_val rfl (.bool true) (fun _ _ _ => rfl) ?_ ?_
  ·rintro ρ w' he ⟨h20, -⟩
   have e20 : ρ 20 = (.pointer none) := h20
   simp [execOp, evR, e20, go_sem]
  refine tele_move rfl (.inl rfl) rfl (isV (.pointer (some ⟨bb, 0, none⟩))) (fun ρ w' h => h) ?_
  refine tele_val rfl (.pointer (some ⟨bb, 0, none⟩)) (fun _ _ _ => rfl) ?_ ?_
  ·rintro ρ w' he ⟨h22, -⟩
   have e22 : ρ 22 = (.pointer (some ⟨bb, 0, none⟩)) := h22
   simp [execOp, evR, e22, go_sem]
  refine tele_val rfl (.pointer (some ⟨bb, 2, none⟩)) (fun _ _ _ => rfl) ?_ ?_
  ·rintro ρ w' he ⟨h23, -⟩
   have e23 : ρ 23 = (.pointer (some ⟨bb, 0, none⟩)) := h23
   simp [execOp, evR, e23, go_sem]
  refine tele_val rfl (.pointer none) (fun _ _ _ => rfl) ?_ ?_
  ·rintro ρ w' he ⟨h24, -⟩
   have e24 : ρ 24 = (.pointer (some ⟨bb, 2, none⟩)) := h24
   have c := (HB.out.ext he).cell (i := 2) rfl
   simp [execOp, evR, e24, c, go_sem]
  refine tele_val rfl (.bool true) (fun _ _ _ => rfl) ?_ ?_
  ·rintro ρ w' he ⟨h25, -⟩
   have e25 : ρ 25 = (.pointer none) := h25
   simp [execOp, evR, e25, go_sem]
  refine tele_val rfl (.bool false) (fun _ _ _ => rfl) ?_ ?_
  ·rintro ρ w' he ⟨h21, h26, -⟩
   have e21 : ρ 21 = (.bool true) := h21
   have e26 : ρ 26 = (.bool true) := h26
   simp [execOp, evR, e21, e26, go_sem]
  refine tele_nil ?_
  rintro ρ w' hext ⟨f27, f26, f25, f24, f23, f22, f21, f20, f19, f18, f17, -⟩
  replace f27 : ρ 27 = (.bool false) := f27
  simp only [puts, Act.put, List.setIfInBounds_toArray, List.set_cons_zero, List.set_cons_succ]
  rw [f27]
  clear f17 f18 f19 f20 f21 f22 f23 f24 f25 f26 f27
  have k2 := (HB.out.ext hext).cell (i := 2) rfl
  have HX2 := Lib.hid (HXB.out.trans hext)
  clear hext
  go_wp2_with fail
  clear k2
  refine (HLV.out w' HX2.out).mono ?_
  rintro e w5 ⟨rfl, hx⟩
  go_wp2_with fail
  go_ret
  exact ⟨rfl, HX2.out.trans hx⟩
 ·obtain ⟨rm, rfl⟩ : ∃ n : Nat, room = (n : Int) := ⟨room.toNat, by omega⟩
  have hrm : rm ≤ 1073741824 := by omega
  have HRM := Lib.hid hrm
  have HD := Lib.hid (dkNew_any rm W hrm)
  have HR := Lib.hid (fun w => rnew_any rm w hrm)
  clear hr hrm
  go_enter Tryz.func3, Tryz.ntmps3
  go_wp2_with fail
  refine HD.out.mono ?_
  rintro e w1 ⟨rfl, hx1, hd1⟩
  go_wp2_with fail
  refine (HR.out _).mono ?_
  rintro e w2 ⟨rfl, hx2, hr2⟩
  have hrs : RkM W.heap.size w2 w1.heap.size ⟨.slice none 0 0, [], 0, 0⟩ (Dk.fresh rm) := ⟨hr2.fs, hr2.str, hr2.plan, World.ownsRow_nil _ _ _ _, by simp, hx1.size⟩
  obtain ⟨bd, hbd⟩ : ∃ b, b = W.heap.size + 1 := ⟨_, rfl⟩
  obtain ⟨br, hbr⟩ : ∃ b, b = w1.heap.size := ⟨_, rfl⟩
  rw [← hbd] at hd1 ⊢
  rw [← hbr] at hrs ⊢
  have hb := BlkT.new w2 #[.pointer (some ⟨bd, 0, none⟩), .pointer none, .pointer (some ⟨br, 0, none⟩), .pointer none, .int .i64 size] 31
  have hxb := ext_alloc w2 (.cells #[.pointer (some ⟨bd, 0, none⟩), .pointer none, .pointer (some ⟨br, 0, none⟩), .pointer none, .int .i64 size] 31)
  obtain ⟨bb, hbb⟩ : ∃ b, b = w2.heap.size := ⟨_, rfl⟩
  obtain ⟨wb, hwb⟩ : ∃ w, w = w2.alloc (.cells #[.pointer (some ⟨bd, 0, none⟩), .pointer none, .pointer (some ⟨br, 0, none⟩), .pointer none, .int .i64 size] 31) := ⟨_, rfl⟩
  rw [← hbb, ← hwb] at hb
  rw [← hwb] at hxb
  have h0 : WP W wb bd br (fun k => dall bd W.heap.size 0 (Dk.fresh rm) [] k) (fun k => rall br ⟨.slice none 0 0, [], 0, 0⟩ k) (Dk.fresh rm) none (.pointer none) (Dk.fresh rm) none (.pointer none) := by
   refine ⟨⟨rfl, _, _, _, hd1.ext (hx2.trans hxb), fun _ => Iff.rfl⟩, ⟨rfl, _, hrs.ext hxb, fun _ => Iff.rfl⟩, fun k hk hrk => ?_, hx1.trans (hx2.trans hxb)⟩
   have := hd1.lt k hk
   rcases hrk with rfl | hj | ⟨m, hm, hj⟩
   ·omega
   ·cases hj
   ·cases hm
  have hn0 : ¬ uni (fun k => dall bd W.heap.size 0 (Dk.fresh rm) [] k) (fun k => rall br ⟨.slice none 0 0, [], 0, 0⟩ k) bb := by
   rintro (hk | hk)
   ·have := hd1.lt bb hk
    have := hx2.size
    omega
   ·have := hrs.lt bb hk
    omega
  have HLO := Lib.hid (show W.heap.size ≤ bb by rw [hbb]; exact (hx1.trans hx2).size)
  have HP := Lib.hid h0
  have HN := Lib.hid hn0
  have HB := Lib.hid hb.blk
  have HBT := Lib.hid hb
  have HE := Lib.hid hwb
  have HBE := Lib.hid hbb
  clear hb hxb hwb hbb HD HR h0 hn0 hx1 hx2 hd1 hr2 hrs hbd hbr
  go_upto_region 2 with (fail)
  rw [← HE.out, ← HBE.out]
  refine wp_region_mono (by kernel_rfl) (by kernel_rfl) ?_
  refine tele_move rfl (.inl rfl) rfl (isV (.pointer (some ⟨bb, 0, none⟩))) (fun ρ w' h => h) ?_
  refine tele_val rfl (.pointer (some ⟨bb, 0, none⟩)) (fun _ _ _ => rfl) ?_ ?_
  ·rintro ρ w' he ⟨h17, -⟩
   have e17 : ρ 17 = (.pointer (some ⟨bb, 0, none⟩)) := h17
   simp [execOp, evR, e17, go_sem]
  refine tele_val rfl (.pointer (some ⟨bb, 0, none⟩)) (fun _ _ _ => rfl) ?_ ?_
  ·rintro ρ w' he ⟨h18, -⟩
   have e18 : ρ 18 = (.pointer (some ⟨bb, 0, none⟩)) := h18
   simp [execOp, evR, e18, go_sem]
  refine tele_val rfl (.pointer (some ⟨bd, 0, none⟩)) (fun _ _ _ => rfl) ?_ ?_
  ·rintro ρ w' he ⟨h19, -⟩
   have e19 : ρ 19 = (.pointer (some ⟨bb, 0, none⟩)) := h19
   have c := (HB.out.ext he).cell (i := 0) rfl
   simp [execOp, evR, e19, c, go_sem]
  refine tele_val rfl (.bool false) (fun _ _ _ => rfl) ?_ ?_
  ·rintro ρ w' he ⟨h20, -⟩
   have e20 : ρ 20 = (.pointer (some ⟨bd, 0, none⟩)) := h20
   simp [execOp, evR, e20, go_sem]
  refine tele_move rfl (.inl rfl) rfl (isV (.pointer (some ⟨bb, 0, none⟩))) (fun ρ w' h => h) ?_
  refine tele_val rfl (.pointer (some ⟨bb, 0, none⟩)) (fun _ _ _ => rfl) ?_ ?_
  ·rintro ρ w' he ⟨h22, -⟩
   have e22 : ρ 22 = (.pointer (some ⟨bb, 0, none⟩)) := h22
   simp [execOp, evR, e22, go_sem]
  refine tele_val rfl (.pointer (some ⟨bb, 2, none⟩)) (fun _ _ _ => rfl) ?_ ?_
  ·rintro ρ w' he ⟨h23, -⟩
   have e23 : ρ 23 = (.pointer (some ⟨bb, 0, none⟩)) := h23
   simp [execOp, evR, e23, go_sem]
  refine tele_val rfl (.pointer (some ⟨br, 0, none⟩)) (fun _ _ _ => rfl) ?_ ?_
  ·rintro ρ w' he ⟨h24, -⟩
   have e24 : ρ 24 = (.pointer (some ⟨bb, 2, none⟩)) := h24
   have c := (HB.out.ext he).cell (i := 2) rfl
   simp [execOp, evR, e24, c, go_sem]
  refine tele_val rfl (.bool false) (fun _ _ _ => rfl) ?_ ?_
  ·rintro ρ w' he ⟨h25, -⟩
   have e25 : ρ 25 = (.pointer (some ⟨br, 0, none⟩)) := h25
   simp [execOp, evR, e25, go_sem]
  refine tele_val rfl (.bool false) (fun _ _ _ => rfl) ?_ ?_
  ·rintro ρ w' he ⟨h21, h26, -⟩
   have e21 : ρ 21 = (.bool false) := h21
   have e26 : ρ 26 = (.bool false) := h26
   simp [execOp, evR, e21, e26, go_sem]
  refine tele_nil ?_
  rintro ρ w' hext ⟨f27, f26, f25, f24, f23, f22, f21, f20, f19, f18, f17, -⟩
  replace f27 : ρ 27 = (.bool false) := f27
  simp only [puts, Act.put, List.setIfInBounds_toArray, List.set_cons_zero, List.set_cons_succ]
  rw [f27]
  clear f17 f18 f19 f20 f21 f22 f23 f24 f25 f26 f27
  obtain ⟨w3, hw3⟩ : ∃ w3, w3 = w' := ⟨_, rfl⟩
  rw [← hw3] at hext ⊢
  replace HP := Lib.hid (HP.out.ext hext)
  replace HBT := Lib.hid (HBT.out.ext hext)
  have k2 := HBT.out.blk.cell (i := 2) rfl
  have HLT := Lib.hid (wlight_any _ ls w3 (HV.out.ext HP.out.hx))
  clear hext hw3 HB HE HBE
  go_wp2_with fail
  refine HLT.out.mono ?_
  rintro e w5 ⟨⟨q, rfl, hq⟩, hx5⟩
  replace HP := Lib.hid (HP.out.ext hx5)
  replace HBT := Lib.hid (HBT.out.ext hx5)
  clear hx5 HLT k2
  cases q
  ·go_wp2_with fail
   refine (HLV.out w5 HP.out.hx).mono ?_
   rintro e w6 ⟨rfl, hx⟩
   go_wp2_with fail
   go_ret
   exact ⟨rfl, HP.out.hx.trans hx⟩
  have HW := Lib.hid (hq rfl)
  clear hq
  have HOP := Lib.hid (bopen_any (c0 := 0) HP.out HT.out HBT.out HN.out HLO.out (fresh_ok HRM.out) (fresh_small rm) (by decide) ⟨_, rfl⟩ ⟨_, rfl⟩)
  go_wp2_with fail
  refine HOP.out.mono ?_
  rintro e w6 ⟨rfl, F1', F2', L', R', hp6, hb6, hn6, hc6⟩
  have hpi : PlayI W bb bd br size 0 w6 := ⟨_, _, F1', F2', L', R', hp6, hb6, hn6, wOpen_ok (fresh_ok HRM.out) size, (wOpen_small (fresh_small rm) size).more (by omega), fun l hl => wOpen_lok (fresh_ok HRM.out) size hl⟩
  have HPI := Lib.hid hpi
  have HX6 := Lib.hid hp6.hx
  have HSM := Lib.hid (bsame_any hp6 hb6 (wOpen_ok (fresh_ok HRM.out) size) (fun l hl => wOpen_lok (fresh_ok HRM.out) size hl))
  clear hp6 hb6 hn6 hc6 hpi HOP HP HBT HN
  go_wp2_with fail
  refine HSM.out.mono ?_
  rintro e w7 ⟨rfl, hx7⟩
  have HPI7 := Lib.hid (show PlayI W bb bd br size 0 w7 by
   obtain ⟨d, ol, G1, G2, L, R, h1, h2, h3, h4⟩ := HPI.out
   exact ⟨d, ol, G1, G2, L, R, h1.ext hx7, h2.ext hx7, h3, h4⟩)
  clear hx7 HSM HPI HX6
  have hfew : ls.length ≤ 200 := by
   have h1 := wasum_len ls
   have h2 := HW.out
   omega
  go_wp2_with fail
  go_loopw [49] (fun i wr => ∃ k : Nat, k ≤ ls.length ∧ i = .int .i64 k ∧ PlayI W bb bd br size k wr) (fun i _ => ls.length - (intOf i).toNat)
  case atStart => exact ⟨0, by omega, rfl, HPI7.out⟩
  case round =>
   clear HPI7
   obtain ⟨k, hk, rfl, d, ol, F1, F2, L, R, hp, hb, hn, hok, hsc, hlk⟩ := hrel
   have HP := Lib.hid hp
   have HB := Lib.hid hb
   have HN := Lib.hid hn
   have HOK := Lib.hid hok
   have HSC := Lib.hid hsc
   have HLK := Lib.hid hlk
   have HX := Lib.hid hp.hx
   clear hp hb hn hok hsc hlk
   by_cases hkl : k < ls.length
   ·obtain ⟨b, off, rfl, hbl, hcell⟩ := H4.out (by omega)
    obtain ⟨⟨a, x⟩, hget⟩ : ∃ p, ls[k]? = some p := ⟨_, List.getElem?_eq_getElem hkl⟩
    have cc := hcell k _ hget
    have hin := HV.out.in_ _ (List.mem_of_getElem? hget)
    dsimp only at hin
    obtain ⟨Ad, cd, hvd, _, _, _, _⟩ := hin.1.open_
    subst hvd
    have c0 : wr.cell? ⟨b, off + k * 5, none⟩ = some (.int .i64 a.kind) := by have := (HX.out.cell (p := ⟨b, off + (k * 5 + 0), none⟩) hbl).trans (cc 0 _ rfl); rwa [← Nat.add_assoc] at this
    have c1 : wr.cell? ⟨b, off + k * 5 + 1, none⟩ = some (.slice Ad a.data.length cd) := by have := (HX.out.cell (p := ⟨b, off + (k * 5 + 1), none⟩) hbl).trans (cc 1 _ rfl); rwa [← Nat.add_assoc] at this
    have c2 : wr.cell? ⟨b, off + k * 5 + 2, none⟩ = some (strV a.name) := by have := (HX.out.cell (p := ⟨b, off + (k * 5 + 2), none⟩) hbl).trans (cc 2 _ rfl); rwa [← Nat.add_assoc] at this
    have c3 : wr.cell? ⟨b, off + k * 5 + 3, none⟩ = some (.int .i64 a.n) := by have := (HX.out.cell (p := ⟨b, off + (k * 5 + 3), none⟩) hbl).trans (cc 3 _ rfl); rwa [← Nat.add_assoc] at this
    have c4 : wr.cell? ⟨b, off + k * 5 + 4, none⟩ = some (.int .i64 a.keep) := by have := (HX.out.cell (p := ⟨b, off + (k * 5 + 4), none⟩) hbl).trans (cc 4 _ rfl); rwa [← Nat.add_assoc] at this
    unfold strV at c2
    have hxb := ext_alloc wr (.cells #[.int .i64 a.kind, .slice Ad a.data.length cd, .string ⟨a.name.toArray⟩, .int .i64 a.n, .int .i64 a.keep] 36)
    have hdl := wasum_at hget
    dsimp only at hdl
    have hnn : a.n < 9223372036854775808 := by have := hin.2.2.2.1.2; omega
    have HAC := Lib.hid (bact_any (c := 2 * k) (c0 := 1000 * k + 10) (HP.out.ext hxb) HT.out (HB.out.ext hxb) HN.out HLO.out HOK.out HSC.out (by omega) HLK.out (by omega) a.kind a.name a.data a.n a.keep hin.1 hin.2.1 (by have := HW.out; omega) hnn)
    have HOK2 := Lib.hid (wAct_ok (ol := ol) HOK.out size a)
    have HSC2 := Lib.hid ((wAct_small (ol := ol) HSC.out HLK.out size a hnn).more (show 1000 * k + 10 + 100 + 2 * k ≤ 1000 * (k + 1) + 10 by omega))
    have HLK2 := Lib.hid (show ∀ l, (wAct size (d, ol) a).2 = some l → LOk (2 * (k + 1)) l from wAct_lok HOK.out HLK.out size a)
    unfold strV at HAC
    clear hcell cc hin hget hxb hdl hnn
    go_wp2_with fail
    refine HAC.out.mono ?_
    rintro e w8 ⟨rfl, F1', F2', L', R', hp8, hb8, hn8, -⟩
    have HP8 := Lib.hid hp8
    have HB8 := Lib.hid hb8
    have HN8 := Lib.hid hn8
    have HSM := Lib.hid (bsame_any hp8 hb8 HOK2.out HLK2.out)
    clear hp8 hb8 hn8 HAC c0 c1 c2 c3 c4 HP HB HN HX
    go_wp2_with fail
    refine HSM.out.mono ?_
    rintro e w9 ⟨rfl, hx9⟩
    have HPI := Lib.hid (show PlayI W bb bd br size (k + 1) w9 from ⟨_, _, F1', F2', L', R', HP8.out.ext hx9, HB8.out.ext hx9, HN8.out, HOK2.out, HSC2.out, HLK2.out⟩)
    clear hx9 HSM HP8 HB8 HN8 HOK2 HSC2 HLK2 HOK HSC HLK
    go_wp2_with fail
    go_roundw
    case rel => exact ⟨k + 1, by omega, by simp, HPI.out⟩
    case measure => simp [intOf]; omega
   ·obtain rfl : k = ls.length := by omega
    go_wp2_with fail
    refine (HLV.out wr HX.out).mono ?_
    rintro e w6 ⟨rfl, hx6⟩
    go_wp2_with fail
    go_ret
    exact ⟨rfl, HX.out.trans hx6⟩
end Go.Proofs.YtagghghoimpofaaGreatDoor
