/-
  Layer 16: acts that came in, and which are light.
-/
import Derived.Test.YtagghghoimpofaaDoorWalTornWalk
import Derived.Test.YtagghghoimpofaaDoorWalRetiresWalk
import Derived.Test.YtagghghoimpofaaDoorOpen
import Derived.OpenShut
import Derived.Deep.Slices
import Derived.ChangeSame
import Derived.Test.YtagghghoimpofaaDoorWalRows
namespace Go.Proofs.YtagghghoimpofaaDoor
open Go.ChangeShapes Go.WideShapes Go.ChangeAt Go.RowKit Mono
set_option linter.unusedVariables false
set_option linter.unusedSimpArgs false
set_option maxRecDepth 100000

/-- An act. -/
structure WAct where
  kind : Int
  name : List UInt8
  data : List UInt8
  n : Int
  keep : Int
/-- The act's cells. -/
def wactC (a : WAct) (v : Value) : List Value := [.int .i64 a.kind, v, strV a.name, .int .i64 a.n, .int .i64 a.keep]
def WI64 (n : Int) : Prop := -9223372036854775808 ≤ n ∧ n ≤ 9223372036854775807
theorem wby_trod {H : Type} {enc : TypeId × Value → H} {w : World} {base : Nat} {held : Bool} {fuel : Nat} {cs : List Value} {x : DataW H × List MemPlace}
    (h : DataW.trod enc Tryd.prog w base (fun _ => true) held fuel 28 cs = some x) : ∃ A n c l, cs = [.slice A n c] ∧ Bs w (.slice A n c) l := by
  rcases open_ints Tryd.underlying28 Tryd.underlying5 (by kernel_rfl) h with ⟨hcs, _⟩ | ⟨x, l, c, zs, hcs, _, hl, hm, hz, _, hcell, hwz⟩
  · exact ⟨none, 0, 0, [], hcs, Bs.nil_ w⟩
  · obtain ⟨l', hb⟩ := bs_of_cells hl hm (by simpa using hz) hcell hwz
    exact ⟨_, _, _, l', hcs, hb⟩
/-- What an act that came in is held to. -/
def WActIn (w : World) (a : WAct) (v : Value) : Prop := Bs w v a.data ∧ a.name.length ≤ maxLen ∧ WI64 a.kind ∧ WI64 a.n ∧ WI64 a.keep
theorem wact_trod {H : Type} {enc : TypeId × Value → H} {w : World} {base : Nat} {held : Bool} {fuel : Nat} {cs : List Value} {x : DataW H × List MemPlace}
    (h : DataW.trod enc Tryd.prog w base (fun _ => true) held fuel 57 cs = some x) : ∃ (a : WAct) (v : Value), cs = wactC a v ∧ WActIn w a v := by
  obtain ⟨xs, m, _, _, hl, hlen, hi⟩ := DataW.trod_struct Tryd.underlying57 h
  have hc : Tryd.prog.cellsOf 57 = 5 := by kernel_rfl
  have h1c : Tryd.prog.cellsOf 9 = 1 := by kernel_rfl
  have h2c : Tryd.prog.cellsOf 3 = 1 := by kernel_rfl
  have h3c : Tryd.prog.cellsOf 28 = 1 := by kernel_rfl
  rw [hc] at hl
  match cs, hl with
  | [u0, u1, u2, u3, u4], _ =>
    have k0 : DataW.trod enc Tryd.prog w base (fun _ => true) held m 3 (([u0, u1, u2, u3, u4].drop 0).take (Tryd.prog.cellsOf 3)) = xs[0]? := hi 0 _ rfl
    have k1 : DataW.trod enc Tryd.prog w base (fun _ => true) held m 9 (([u0, u1, u2, u3, u4].drop 2).take (Tryd.prog.cellsOf 9)) = xs[2]? := hi 2 _ rfl
    have k2 : DataW.trod enc Tryd.prog w base (fun _ => true) held m 28 (([u0, u1, u2, u3, u4].drop 1).take (Tryd.prog.cellsOf 28)) = xs[1]? := hi 1 _ rfl
    have k3 : DataW.trod enc Tryd.prog w base (fun _ => true) held m 3 (([u0, u1, u2, u3, u4].drop 3).take (Tryd.prog.cellsOf 3)) = xs[3]? := hi 3 _ rfl
    have k4 : DataW.trod enc Tryd.prog w base (fun _ => true) held m 3 (([u0, u1, u2, u3, u4].drop 4).take (Tryd.prog.cellsOf 3)) = xs[4]? := hi 4 _ rfl
    simp only [h1c, h2c, h3c, List.drop_zero, List.take_succ_cons, List.take_zero, List.drop_succ_cons] at k0 k1 k2 k3 k4
    have hxs : xs.length = 5 := hlen
    rw [List.getElem?_eq_getElem (by omega)] at k0 k1 k2 k3 k4
    obtain ⟨a, ha, _, hwa⟩ := DataW.trod_int Tryd.underlying3 k0
    obtain ⟨b, hb, _, hwb⟩ := DataW.trod_string Tryd.underlying9 k1
    obtain ⟨A, n, c, l, hd, hbs⟩ := wby_trod k2
    obtain ⟨y, hy, _, hwy⟩ := DataW.trod_int Tryd.underlying3 k3
    obtain ⟨z, hz, _, hwz⟩ := DataW.trod_int Tryd.underlying3 k4
    injection ha with ha _
    injection hb with hb _
    injection hd with hd _
    injection hy with hy _
    injection hz with hz _
    subst ha hb hd hy hz
    refine ⟨⟨a, b.data.toList, l, y, z⟩, _, by unfold wactC strV; simp, hbs, ?_, int_of_wf hwa, int_of_wf hwy, int_of_wf hwz⟩
    dsimp only
    rw [Array.length_toList]
    exact hwb
theorem wact_open {H : Type} {enc : TypeId × Value → H} {w : World} {base b0 : Nat} {held : Bool} {r : Reach} {v : Value} {d : DataW H} {ps : List MemPlace}
    (hv : Value.okWide Tryd.prog w r b0 57 v) (h : DataW.Trod enc Tryd.prog w base (fun _ => true) held 57 v d ps) : ∃ (a : WAct) (x : Value), v = .agg (wactC a x).toArray ∧ WActIn w a x := by
  simp only [Value.okWide, Tryd.underlying57] at hv
  obtain ⟨cs, rfl, _, _⟩ := hv
  obtain ⟨fuel, hf⟩ := h
  obtain ⟨a, x, hc, hrest⟩ := wact_trod hf
  refine ⟨a, x, ?_, hrest⟩
  congr 1
  apply Array.ext'
  simpa [Value.cells] using hc
/-- A slice of acts that came in. -/
structure WAs (w : World) (v : Value) (l : List (WAct × Value)) : Prop where
  at_ : ∃ A c, v = .slice A l.length c ∧ l.length ≤ c ∧ c ≤ maxLen ∧ (0 < l.length → ∃ b off, A = some ⟨b, off, none⟩ ∧ b < w.heap.size ∧ ∀ (i : Nat) (p : WAct × Value), l[i]? = some p → ∀ (j : Nat) u, (wactC p.1 p.2)[j]? = some u → w.cell? ⟨b, off + (i * 5 + j), none⟩ = some u)
  in_ : ∀ p ∈ l, WActIn w p.1 p.2
theorem WActIn.ext {w w' : World} {a : WAct} {v : Value} (h : WActIn w a v) (he : Ext w w') : WActIn w' a v := ⟨h.1.ext he, h.2⟩
theorem WAs.ext {w w' : World} {v : Value} {l : List (WAct × Value)} (h : WAs w v l) (he : Ext w w') : WAs w' v l := by
  obtain ⟨A, c, h1, h2, h3, h4⟩ := h.at_
  refine ⟨⟨A, c, h1, h2, h3, fun h0 => ?_⟩, fun p hp => (h.in_ p hp).ext he⟩
  obtain ⟨b, off, e1, e2, e3⟩ := h4 h0
  exact ⟨b, off, e1, Nat.lt_of_lt_of_le e2 he.size, fun i p hp j u hu => (he.cell (p := ⟨b, off + (i * 5 + j), none⟩) e2).trans (e3 i p hp j u hu)⟩
theorem was_trod {H : Type} {enc : TypeId × Value → H} {w : World} {base : Nat} {held : Bool} {fuel : Nat} {cs : List Value} {y : DataW H × List MemPlace}
    (h : DataW.trod enc Tryd.prog w base (fun _ => true) held fuel 53 cs = some y) : ∃ v l, cs = [v] ∧ WAs w v l := by
  rcases Deep.open_slice Tryd.underlying53 h with ⟨hcs, _⟩ | ⟨x, len, cap, m, n, D, Pl, hcs, _, hl, hm, hmm, _, hi⟩
  · exact ⟨_, [], hcs, ⟨none, 0, rfl, Nat.le_refl _, Nat.zero_le _, fun h => absurd h (by simp)⟩, by simp⟩
  · refine ⟨.slice (some x) len cap, ?_⟩
    have he : Tryd.prog.cellsOf 57 = 5 := by kernel_rfl
    rw [he] at hi
    have hlm : len ≤ m := by rw [hmm]; split <;> omega
    have each : ∀ i, i < len → ∃ p : WAct × Value, (∀ (j : Nat) u, (wactC p.1 p.2)[j]? = some u → w.cell? (x.add (i * 5 + j)) = some u) ∧ WActIn w p.1 p.2 := by
      intro i hil
      obtain ⟨cs, hc, ht⟩ := hi i (by omega)
      obtain ⟨a, v, rfl, hin⟩ := wact_trod ht
      obtain ⟨_, _, hat⟩ := World.cells?_some hc
      refine ⟨(a, v), fun j u hu => ?_, hin⟩
      have hj : j < 5 := (List.getElem?_eq_some_iff.1 hu).1
      rw [← Go.Deep.add_add]
      have := hat j hj
      rw [this]
      exact hu
    let f : Nat → WAct × Value := fun i => if h : i < len then Classical.choose (each i h) else (⟨0, [], [], 0, 0⟩, undef)
    have hff : ∀ i (h : i < len), f i = Classical.choose (each i h) := fun i h => by simp only [f]; rw [dif_pos h]
    refine ⟨(List.range len).map f, hcs, ⟨some x, cap, by simp, by simpa using hl, hm, fun h0 => ?_⟩, fun g hg => ?_⟩
    · have hlen : 0 < len := by simpa using h0
      obtain ⟨b, off, spot⟩ := x
      obtain ⟨p0, hp0, _⟩ := each 0 hlen
      have hp0 := hp0 0 _ rfl
      have hspot : spot = none := by simpa [Addr.add] using World.cell?_spot hp0
      subst hspot
      have hb : b < w.heap.size := by
        rcases Nat.lt_or_ge b w.heap.size with h | h
        · exact h
        · exfalso
          simp [World.cell?, Addr.add, Array.getElem?_eq_none h] at hp0
      refine ⟨b, off, rfl, hb, fun i p hp j u hu => ?_⟩
      obtain ⟨hil, hpi⟩ := List.getElem?_eq_some_iff.1 hp
      have hil' : i < len := by simpa using hil
      have hfp : f i = p := by simpa using hpi
      have hspec := Classical.choose_spec (each i hil')
      rw [← hff _ hil', hfp] at hspec
      have := hspec.1 j u hu
      rw [add_at] at this
      exact this
    · obtain ⟨i, hi, rfl⟩ := List.mem_map.1 hg
      have hil' : i < len := by simpa using hi
      have hspec := Classical.choose_spec (each i hil')
      rw [← hff i hil'] at hspec
      exact hspec.2
theorem was_open {H : Type} {enc : TypeId × Value → H} {w : World} {base b0 : Nat} {held : Bool} {r : Reach} {v : Value} {d : DataW H} {ps : List MemPlace}
    (hv : Value.okWide Tryd.prog w r b0 53 v) (h : DataW.Trod enc Tryd.prog w base (fun _ => true) held 53 v d ps) : ∃ l, WAs w v l := by
  obtain ⟨A, len, cap, rfl⟩ := okWide_slice Tryd.underlying53 hv
  obtain ⟨fuel, hf⟩ := h
  obtain ⟨v, l, hc, hw⟩ := was_trod hf
  simp [Value.cells] at hc
  subst hc
  exact ⟨l, hw⟩
theorem index_at5 {w : World} {o : Oper} {f : Operand → Value} {t e : TypeId} {x y : Operand} {b off c n i : Nat} (k : Nat) (hop : o.op = .indexAddr t x y) (ht : Tryd.prog.underlying t = some (.slice e))
    (hx : f x = .slice (some ⟨b, off, none⟩) n c) (hy : f y = .int .i64 (i : Int)) (hi : i < n) (hk : (sizeOf e).run Tryd.prog w = .ok k w) :
    (execOp f o).run Tryd.prog w = .ok (.value (.pointer (some ⟨b, off + i * k, none⟩))) w := by
  have hi' : (i : Int) < (n : Int) := by omega
  have h0 : (0 : Int) ≤ (i : Int) := by omega
  simp [execOp, hop, hx, hy, Instr.indexAt, run_underlying ht, hi', h0, hk, add_at, go_sem]
  intro h
  omega
/-- What acts weigh. -/
def wasum : List (WAct × Value) → Nat
  | [] => 0
  | p :: r => 50 + p.1.data.length + p.1.name.length + wasum r
theorem wasum_append (a b : List (WAct × Value)) : wasum (a ++ b) = wasum a + wasum b := by
  induction a with
  | nil => simp [wasum]
  | cons x a ih => simp only [List.cons_append, wasum, ih]; omega
theorem wasum_take {l : List (WAct × Value)} {k : Nat} {x : WAct × Value} (h : l[k]? = some x) : wasum (l.take (k + 1)) = wasum (l.take k) + (50 + x.1.data.length + x.1.name.length) := by
  rw [List.take_add_one, h, wasum_append]
  rfl
theorem wasum_take_le (l : List (WAct × Value)) (k : Nat) : wasum (l.take k) ≤ wasum l := by
  have := wasum_append (l.take k) (l.drop k)
  rw [List.take_append_drop] at this
  omega
theorem wasum_len (l : List (WAct × Value)) : 50 * l.length ≤ wasum l := by
  induction l with
  | nil => exact Nat.le_refl _
  | cons x r ih => unfold wasum; rw [List.length_cons]; omega
set_option maxHeartbeats 4000000 in
theorem wlight_any (v : Value) (l : List (WAct × Value)) (W : World) (hl : WAs W v l) :
    Calls Tryd.prog 28 #[v] W fun e w' => (∃ q : Bool, e = .returned (.bool q) ∧ (q = true → wasum l ≤ 10000)) ∧ Ext W w' := by
  obtain ⟨A, c, rfl, g1, g2, g4⟩ := hl.at_
  have H4 := Lib.hid g4
  have HIN := Lib.hid hl.in_
  unfold maxLen at g2
  clear g4 hl
  go_enter Tryd.func28, Tryd.ntmps28
  go_wp2_with fail
  go_loopw [3, 4] (fun n i wr => ∃ (k : Nat) (z : Int), k ≤ l.length ∧ i = .int .i64 k ∧ n = .int .i64 z ∧ 0 ≤ z ∧ z ≤ 10001 ∧ (z ≤ 10000 → ((wasum (l.take k) : Nat) : Int) ≤ z) ∧ Ext W wr) (fun _ i _ => l.length - (intOf i).toNat)
  case atStart => exact ⟨0, 0, Nat.zero_le _, rfl, rfl, by omega, by omega, (fun _ => by simp [wasum]), Ext.refl _⟩
  case round =>
    obtain ⟨i, z, hi, rfl, rfl, hz0, hz1, hnl, hx⟩ := hrel
    have HNL := Lib.hid hnl
    clear hnl
    by_cases hlt : i < l.length
    · by_cases hn : z ≤ 10000
      · obtain ⟨b, off, rfl, hb, hc⟩ := H4.out (by omega)
        obtain ⟨⟨p, x⟩, hget⟩ : ∃ p, l[i]? = some p := ⟨_, List.getElem?_eq_getElem hlt⟩
        have hin := HIN.out (p, x) (List.mem_of_getElem? hget)
        dsimp only at hin
        have hnm := hin.2.1
        obtain ⟨Ad, cd, hv, d1, d2, _, _⟩ := hin.1.open_
        subst hv
        unfold maxLen at hnm d2
        have c1 : W.cell? ⟨b, off + i * 5 + 1, none⟩ = some (.slice Ad p.data.length cd) := by have := hc i _ hget 1 _ rfl; rwa [← Nat.add_assoc] at this
        have c2 : W.cell? ⟨b, off + i * 5 + 2, none⟩ = some (strV p.name) := by have := hc i _ hget 2 _ rfl; rwa [← Nat.add_assoc] at this
        have C1 := Lib.hid c1
        have C2 := Lib.hid c2
        have HG := Lib.hid (wasum_take hget)
        have HIX := Lib.hid hi
        clear hc hget hin c1 c2
        go_wp2_with fail
        have c1 := C1.out
        have c2 := C2.out
        refine wp_region_mono (by kernel_rfl) (by kernel_rfl) ?_
        refine tele_move rfl (.inl rfl) rfl (isV (.int .i64 z)) (fun ρ w' h => h) ?_
        refine tele_call rfl rfl Tryd.func26 (by kernel_rfl) (isUpW (z + 50)) (fun _ _ _ => rfl) ?_ ?_
        · rintro ρ w' he ⟨h15, -⟩
          have e15 : ρ 15 = (.int .i64 z) := h15
          simp only [evR, List.map_toArray, List.map_cons, List.map_nil, e15]
          refine (add_upW z 50 (z) _ hz0 hz1 (by omega) (by omega) (fun _ => by omega)).mono ?_
          rintro e w'' ⟨⟨y', rfl, y1, y2, y3⟩, rfl⟩
          exact ⟨_, rfl, Ext.refl _, y', rfl, y1, y2, fun h => by have := y3 h; omega⟩
        refine tele_move rfl (.inl rfl) rfl (isV (.slice (some ⟨b, off, none⟩) l.length c)) (fun ρ w' h => h) ?_
        refine tele_move rfl (.inl rfl) rfl (isV (.int .i64 (i : Int))) (fun ρ w' h => h) ?_
        refine tele_val rfl (.pointer (some ⟨b, off + i * 5, none⟩)) (fun _ _ _ => rfl) ?_ ?_
        · rintro ρ w' he ⟨h17, h18, -⟩
          have e17 : ρ 17 = (.slice (some ⟨b, off, none⟩) l.length c) := h17
          have e18 : ρ 18 = (.int .i64 (i : Int)) := h18
          exact index_at5 5 rfl Tryd.underlying53 e17 e18 (by omega) (by kernel_rfl)
        refine tele_val rfl (.pointer (some ⟨b, off + i * 5 + 1, none⟩)) (fun _ _ _ => rfl) ?_ ?_
        · rintro ρ w' he ⟨h19, -⟩
          have e19 : ρ 19 = (.pointer (some ⟨b, off + i * 5, none⟩)) := h19
          simp [execOp, evR, e19, go_sem]
        refine tele_val rfl (.slice Ad p.data.length cd) (fun _ _ _ => rfl) ?_ ?_
        · rintro ρ w' he ⟨h20, -⟩
          have e20 : ρ 20 = (.pointer (some ⟨b, off + i * 5 + 1, none⟩)) := h20
          have c := (hx.trans he).cell (p := ⟨b, off + i * 5 + 1, none⟩) hb |>.trans c1
          simp [execOp, evR, e20, c, go_sem]
        refine tele_val rfl (.int .i64 ((p.data.length : Nat) : Int)) (fun _ _ _ => rfl) ?_ ?_
        · rintro ρ w' he ⟨h21, -⟩
          have e21 : ρ 21 = (.slice Ad p.data.length cd) := h21
          simp [execOp, evR, e21, go_sem]
        refine tele_call rfl rfl Tryd.func26 (by kernel_rfl) (isUpW (z + 50 + ((p.data.length : Nat) : Int))) (fun _ _ _ => rfl) ?_ ?_
        · rintro ρ w' he ⟨h16, h22, -⟩
          have e16 : (isUpW (z + 50)).rel (ρ 16) w' := h16
          have e22 : ρ 22 = (.int .i64 ((p.data.length : Nat) : Int)) := h22
          simp only [evR, List.map_toArray, List.map_cons, List.map_nil, e22]
          obtain ⟨y, q, z0, z1, zl⟩ := e16
          simp only [q]
          refine (add_upW y ((p.data.length : Nat) : Int) (z + 50) _ z0 z1 (by omega) (by omega) zl).mono ?_
          rintro e w'' ⟨⟨y', rfl, y1, y2, y3⟩, rfl⟩
          exact ⟨_, rfl, Ext.refl _, y', rfl, y1, y2, fun h => by have := y3 h; omega⟩
        refine tele_move rfl (.inl rfl) rfl (isV (.slice (some ⟨b, off, none⟩) l.length c)) (fun ρ w' h => h) ?_
        refine tele_move rfl (.inl rfl) rfl (isV (.int .i64 (i : Int))) (fun ρ w' h => h) ?_
        refine tele_val rfl (.pointer (some ⟨b, off + i * 5, none⟩)) (fun _ _ _ => rfl) ?_ ?_
        · rintro ρ w' he ⟨h24, h25, -⟩
          have e24 : ρ 24 = (.slice (some ⟨b, off, none⟩) l.length c) := h24
          have e25 : ρ 25 = (.int .i64 (i : Int)) := h25
          exact index_at5 5 rfl Tryd.underlying53 e24 e25 (by omega) (by kernel_rfl)
        refine tele_val rfl (.pointer (some ⟨b, off + i * 5 + 2, none⟩)) (fun _ _ _ => rfl) ?_ ?_
        · rintro ρ w' he ⟨h26, -⟩
          have e26 : ρ 26 = (.pointer (some ⟨b, off + i * 5, none⟩)) := h26
          simp [execOp, evR, e26, go_sem]
        refine tele_val rfl (strV p.name) (fun _ _ _ => rfl) ?_ ?_
        · rintro ρ w' he ⟨h27, -⟩
          have e27 : ρ 27 = (.pointer (some ⟨b, off + i * 5 + 2, none⟩)) := h27
          have c := (hx.trans he).cell (p := ⟨b, off + i * 5 + 2, none⟩) hb |>.trans c2
          simp [execOp, evR, e27, c, go_sem]
        refine tele_val rfl (.int .i64 ((p.name.length : Nat) : Int)) (fun _ _ _ => rfl) ?_ ?_
        · rintro ρ w' he ⟨h28, -⟩
          have e28 : ρ 28 = (strV p.name) := h28
          have hsz := strV_size p.name
          unfold strV at e28
          simp [execOp, evR, e28, go_sem]
        refine tele_call rfl rfl Tryd.func26 (by kernel_rfl) (isUpW (z + 50 + ((p.data.length : Nat) : Int) + ((p.name.length : Nat) : Int))) (fun _ _ _ => rfl) ?_ ?_
        · rintro ρ w' he ⟨h23, h29, -⟩
          have e23 : (isUpW (z + 50 + ((p.data.length : Nat) : Int))).rel (ρ 23) w' := h23
          have e29 : ρ 29 = (.int .i64 ((p.name.length : Nat) : Int)) := h29
          simp only [evR, List.map_toArray, List.map_cons, List.map_nil, e29]
          obtain ⟨y, q, z0, z1, zl⟩ := e23
          simp only [q]
          refine (add_upW y ((p.name.length : Nat) : Int) (z + 50 + ((p.data.length : Nat) : Int)) _ z0 z1 (by omega) (by omega) zl).mono ?_
          rintro e w'' ⟨⟨y', rfl, y1, y2, y3⟩, rfl⟩
          exact ⟨_, rfl, Ext.refl _, y', rfl, y1, y2, fun h => by have := y3 h; omega⟩
        refine tele_move rfl (.inr rfl) rfl (isUpW (z + 50 + ((p.data.length : Nat) : Int) + ((p.name.length : Nat) : Int))) (fun ρ w' h => h) ?_
        refine tele_nil ?_
        rintro ρ w' hext ⟨f3, f30, f29, f28, f27, f26, f25, f24, f23, f22, f21, f20, f19, f18, f17, f16, f15, -⟩
        replace f15 : ρ 15 = (.int .i64 z) := f15
        replace f16 : (isUpW (z + 50)).rel (ρ 16) w' := f16
        replace f17 : ρ 17 = (.slice (some ⟨b, off, none⟩) l.length c) := f17
        replace f18 : ρ 18 = (.int .i64 (i : Int)) := f18
        replace f19 : ρ 19 = (.pointer (some ⟨b, off + i * 5, none⟩)) := f19
        replace f20 : ρ 20 = (.pointer (some ⟨b, off + i * 5 + 1, none⟩)) := f20
        replace f21 : ρ 21 = (.slice Ad p.data.length cd) := f21
        replace f22 : ρ 22 = (.int .i64 ((p.data.length : Nat) : Int)) := f22
        replace f23 : (isUpW (z + 50 + ((p.data.length : Nat) : Int))).rel (ρ 23) w' := f23
        replace f24 : ρ 24 = (.slice (some ⟨b, off, none⟩) l.length c) := f24
        replace f25 : ρ 25 = (.int .i64 (i : Int)) := f25
        replace f26 : ρ 26 = (.pointer (some ⟨b, off + i * 5, none⟩)) := f26
        replace f27 : ρ 27 = (.pointer (some ⟨b, off + i * 5 + 2, none⟩)) := f27
        replace f28 : ρ 28 = (strV p.name) := f28
        replace f29 : ρ 29 = (.int .i64 ((p.name.length : Nat) : Int)) := f29
        replace f30 : (isUpW (z + 50 + ((p.data.length : Nat) : Int) + ((p.name.length : Nat) : Int))).rel (ρ 30) w' := f30
        replace f3 : (isUpW (z + 50 + ((p.data.length : Nat) : Int) + ((p.name.length : Nat) : Int))).rel (ρ 3) w' := f3
        simp only [puts, Act.put, List.setIfInBounds_toArray, List.set_cons_zero, List.set_cons_succ]
        obtain ⟨y, f3, q0, q1, q2⟩ := (show (isUpW (z + 50 + ((p.data.length : Nat) : Int) + ((p.name.length : Nat) : Int))).rel (ρ 3) w' from f3)
        rw [f3]
        clear f3 f15 f16 f17 f18 f19 f20 f21 f22 f23 f24 f25 f26 f27 f28 f29 f30 c1 c2
        have HQ := Lib.hid q2
        have HXE := Lib.hid (hx.trans hext)
        clear q2 hext
        go_wp2_with fail
        go_roundw
        case rel => exact ⟨i + 1, y, by omega, by simp, rfl, q0, q1, (fun h => by
          have a1 := HNL.out hn
          have b1 := HQ.out h
          rw [HG.out]
          omega), HXE.out⟩
        case measure => simp [intOf]; omega
      · go_wp2_with fail
        go_ret
        exact ⟨.inl rfl, hx⟩
    · obtain rfl : i = l.length := by omega
      by_cases hn : z ≤ 10000
      · go_wp2_with fail
        go_ret
        refine ⟨⟨_, rfl, fun _ => ?_⟩, hx⟩
        have a1 := HNL.out hn
        rw [List.take_length] at a1
        omega
      · go_wp2_with fail
        go_ret
        exact ⟨.inl rfl, hx⟩
end Go.Proofs.YtagghghoimpofaaDoor

/-
  Layer 16 in plain Lean: what a failure keeps.
-/
namespace Go.Proofs.YtagghghoimpofaaDoor
open Go Go.RowKit Mono Num Crc
set_option linter.unusedVariables false
set_option linter.unusedSimpArgs false
set_option maxRecDepth 100000

theorem endsN_le (c : List (List UInt8)) {a b : Nat} (h : a ≤ b) : endsN c a ≤ endsN c b := by
  unfold endsN
  have e : c.take b = c.take a ++ (c.drop a).take (b - a) := by
    rw [show b = a + (b - a) by omega, List.take_add]
    congr 2
    omega
  have e2 : allOf (c.take b) = allOf (c.take a) ++ allOf ((c.drop a).take (b - a)) := by unfold allOf; rw [e, List.map_append, List.flatten_append]
  rw [e2, List.length_append]
  exact Nat.le_add_right _ _
/-- What a failure left is opened. -/
theorem dead_open {all : List (List UInt8)} {d : Dk} {l : Lg} (h : Dead 1 all d l) (size : Nat) (h1 : 1 ≤ size) (h2 : size ≤ 1048576) :
    ∃ d2 l2 r, wOpen (dPower d) (size : Int) = ⟨d2, some l2, r, 0⟩ ∧ r = all.take r.length ∧ l.sure ≤ r.length ∧ r.length ≤ all.length ∧ l2.next = r.length + 1 ∧ l2.sure = r.length ∧ d2.on = true ∧ d2.plan = none ∧
      ∃ cs c P f, Chn 1 cs c d2 l2 ∧ cs.flatten ++ c = r ∧ d2.fs = P ++ [f] ∧ FsOf 1 cs P ∧ f.name = wname (endN 1 cs : Nat) ∧ f.b = allOf c ∧ f.sure = f.b.length ∧ endN 1 cs ≤ 999999999999 := by
  obtain ⟨cs, c, rest, P, f, m, j, hfs, hP, hn, he, hb, hm, hs, hall, hj, hje, hq, hr1, hr2⟩ := h.files
  obtain ⟨j', t1, t2, t3, t4⟩ := torn c 0 m hr2 hm
  rw [← frows_P, Nat.zero_add, ← hb] at t2
  have hjj : j ≤ j' := by
    rcases Nat.lt_or_ge j' j with hlt | hge
    · have h3 := t4 (by omega)
      have h4 := endsN_le c (show j' + 1 ≤ j by omega)
      omega
    · exact hge
  have hokp := dPower_ok h.ok
  obtain ⟨k, hk⟩ := wOpen_chain hokp rfl h.plan (n := 1) (by decide) hfs hP hn he hr1 size h1 h2
  have hok2 := wOpen_ok hokp (size : Int)
  rw [hk] at hok2
  rw [t2] at hk hok2
  dsimp only at hk hok2
  have hcl : (c.take j').length = j' := by rw [List.length_take]; omega
  have htb : f.b.take (endsN c j') = allOf (c.take j') := by
    have h5 := (frows_form f.b).1
    rw [t2] at h5
    exact h5
  have hlen : (cs.flatten ++ c.take j').length = cs.flatten.length + j' := by rw [List.length_append, hcl]
  have hEN : (allOf (c.take j')).length = endsN c j' := rfl
  refine ⟨_, _, _, hk, ?_, ?_, ?_, ?_, ?_, rfl, h.plan, cs, c.take j', P, _, ⟨hok2, rfl, rfl, by decide, by rw [hEN], hr1, fun y hy => hr2 y (List.mem_of_mem_take hy), P, _, rfl, hP, hn, htb, (c.take j').length, Nat.le_refl _, ?_, ?_⟩, rfl, rfl, hP, hn, htb, ?_, he⟩
  · rw [hlen, ← hall, List.append_assoc, List.take_length_add_append, List.take_append_of_le_length t1]
  · rw [hlen]
    unfold endN at hq
    omega
  · rw [hlen, ← hall]
    simp
    omega
  · rw [hlen]
    unfold Lg.next
    rw [Lg.last_snoc _ _ rfl]
    show endN 1 cs + (c.take j').length = _
    rw [hcl]
    unfold endN
    omega
  · rw [hlen]
    show endN 1 cs + (c.take j').length - 1 = _
    rw [hcl]
    unfold endN
    omega
  · show endsN _ _ ≤ endsN c j'
    rw [endsN_len, hEN]
    exact Nat.le_refl _
  · show endN 1 cs + (c.take j').length - 1 + 1 ≤ _
    unfold endN
    omega
  · show endsN c j' = (f.b.take (endsN c j')).length
    rw [htb]
    rfl
/-- Opened, failed and opened again. -/
theorem again_open {cs : List (List (List UInt8))} {c : List (List UInt8)} {d : Dk} {l : Lg} {P : List Fil} {f : Fil} (h : Chn 1 cs c d l) (hfs : d.fs = P ++ [f]) (hP : FsOf 1 cs P) (hn : f.name = wname (endN 1 cs : Nat)) (hb : f.b = allOf c) (hsu : f.sure = f.b.length) (he : endN 1 cs ≤ 999999999999) (size : Nat) (h1 : 1 ≤ size) (h2 : size ≤ 1048576) :
    ∃ d2 l2, dFail d 0 = (d.lose 0, 0) ∧ wOpen (dPower (d.lose 0)) (size : Int) = ⟨d2, some l2, cs.flatten ++ c, 0⟩ := by
  have hfl : (dPower (d.lose 0)).fs = P ++ [f] := by
    show d.fs.map (Fil.lose 0) = _
    rw [hfs, List.map_append, hP.lose, List.map_singleton, lose_same hsu]
  obtain ⟨k, hk⟩ := wOpen_chain (dPower_ok (h.ok.lose 0)) rfl rfl (n := 1) (by decide) hfl hP hn he h.recs size h1 h2
  rw [hb, frows_allOf c h.last] at hk
  exact ⟨_, _, by unfold dFail; rw [if_neg (by simp [h.on])], hk⟩
/-- What stands while the acts go on. -/
def KI (w : Nat) (all : List (List UInt8)) (d : Dk) (l : Lg) : Prop :=
  (allOf all).length ≤ w ∧ all.length ≤ w ∧ ((∃ cs c p keep, Chn 1 cs c d l ∧ cs.flatten ++ c = all ∧ d.plan = some (p, keep) ∧ 2 * cs.length + p ≤ 79 ∧ d.used = (allOf all).length ∧ d.room = 1048576) ∨ Dead 1 all d l)
theorem KI.ok {w : Nat} {all : List (List UInt8)} {d : Dk} {l : Lg} (h : KI w all d l) : d.Ok := by
  rcases h.2.2 with ⟨cs, c, p, keep, hc, _⟩ | hd
  · exact hc.ok
  · exact hd.ok
theorem Dead.fault {n : Nat} {all : List (List UInt8)} {d : Dk} {l : Lg} (h : Dead n all d l) : wFault d l = 150 := by unfold wFault; rw [if_pos h.on]
theorem KI.append {w : Nat} {all : List (List UInt8)} {d : Dk} {l : Lg} (h : KI w all d l) (rec : List UInt8) (hw : w + (50 + rec.length) ≤ 10000) :
    KI (w + (50 + rec.length)) (if wFault d l = 0 then all ++ [rec] else all) (wAppend d l rec).1.1 (wAppend d l rec).1.2 ∧
    (((wAppend d l rec).2.2 = 0 ∧ (wAppend d l rec).2.1 = (if wFault d l = 0 then all ++ [rec] else all).length) ∨ (wAppend d l rec).2.2 = 150) := by
  obtain ⟨h1, h2, h3⟩ := h
  have hwl := wrap_len rec
  rcases h3 with ⟨cs, c, p, keep, hC, hall, hp, hpl, hus, hro⟩ | hD
  · rw [hC.fault, if_pos rfl]
    have hnfs : d.fs.length = cs.length + 1 := by
      obtain ⟨P, f, hfs, hP, _⟩ := hC.files
      rw [hfs, List.length_append, hP.len]
      rfl
    have hlen : cs.flatten.length + c.length = all.length := by rw [← hall, List.length_append]
    have hca : (allOf c).length ≤ (allOf all).length := by
      have : allOf all = allOf cs.flatten ++ allOf c := by rw [← hall]; unfold allOf; rw [List.map_append, List.flatten_append]
      rw [this, List.length_append]
      omega
    have hA := wAppend_chain hC rec (by omega) (by unfold endN; omega) (by rw [hus, hro]; omega) (by omega) (fun _ _ => by rw [hnfs]; omega)
    have hsum : (allOf (all ++ [rec])).length = (allOf all).length + (wrap rec).length := by rw [allOf_snoc, List.length_append]
    rcases hA with ⟨cs', c', hC', hfl, hne, hr, hPU, hu', hro', _⟩ | ⟨_, hr, hD⟩
    · obtain ⟨p', hp', hpp⟩ := hPU.2 p keep hp
      refine ⟨⟨by rw [hsum]; omega, by rw [List.length_append, List.length_singleton]; omega, .inl ⟨cs', c', p', keep, hC', by rw [hfl, hall], hp', by omega, by rw [hu', hus, hsum], by rw [hro', hro]⟩⟩, .inl ⟨by rw [hr], ?_⟩⟩
      rw [hr, List.length_append, List.length_singleton]
      show endN 1 cs + c.length = _
      unfold endN
      omega
    · rw [hall] at hD
      exact ⟨⟨by rw [hsum]; omega, by rw [List.length_append, List.length_singleton]; omega, .inr hD⟩, .inr (by rw [hr])⟩
  · have hA : wAppend d l rec = ((d, l), 0, 150) := by unfold wAppend; rw [hD.fault, if_pos (by decide)]
    rw [hD.fault, if_neg (by decide), hA]
    exact ⟨⟨by omega, by omega, .inr hD⟩, .inr rfl⟩
theorem KI.sync {w : Nat} {all : List (List UInt8)} {d : Dk} {l : Lg} (h : KI w all d l) (hw : w ≤ 10000) : KI w all (wSync d l).1.1 (wSync d l).1.2 := by
  obtain ⟨h1, h2, h3⟩ := h
  refine ⟨h1, h2, ?_⟩
  rcases h3 with ⟨cs, c, p, keep, hC, hall, hp, hpl, hus, hro⟩ | hD
  · rcases wSync_chain hC with ⟨P0, f0, hd0, _, _, _, _, he0⟩ | ⟨kp, hd, he⟩
    · have hz : (wSync d l).2 = 0 := by rw [he0]
      obtain ⟨hC2, hPU, _, hus2, hro2, _⟩ := hC.synced hz
      obtain ⟨p', hp', hpp⟩ := hPU.2 p keep hp
      exact .inl ⟨cs, c, p', keep, hC2, hall, hp', by omega, by rw [hus2, hus], by rw [hro2, hro]⟩
    · rw [he]
      have hlen : cs.flatten.length + c.length = all.length := by rw [← hall, List.length_append]
      have := hC.dead (by unfold endN; omega) [] kp
      rw [List.append_nil, hall] at this
      exact .inr this
  · have hA : wSync d l = ((d, l), 150) := by unfold wSync; rw [hD.fault, if_pos (by decide)]
    rw [hA]
    exact .inr hD
theorem KI.fail {w : Nat} {all : List (List UInt8)} {d : Dk} {l : Lg} (h : KI w all d l) (hw : w ≤ 10000) (keep : Int) : Dead 1 all (dFail d keep).1 l := by
  obtain ⟨h1, h2, h3⟩ := h
  rcases h3 with ⟨cs, c, p, kp, hC, hall, hp, hpl, hus, hro⟩ | hD
  · have hlen : cs.flatten.length + c.length = all.length := by rw [← hall, List.length_append]
    have := hC.dead (by unfold endN; omega) [] keep
    rw [List.append_nil, hall] at this
    unfold dFail
    rw [if_neg (by simp [hC.on])]
    exact this
  · unfold dFail
    rw [if_pos hD.on]
    exact hD
end Go.Proofs.YtagghghoimpofaaDoor

/-
  Layer 16: the walk of WalKeeps.
-/
namespace Go.Proofs.YtagghghoimpofaaDoor
open Go Go.RowKit Mono
set_option linter.unusedVariables false
set_option linter.unusedSimpArgs false
set_option maxRecDepth 100000
set_option maxHeartbeats 4000000

theorem DL.other {z bd bl : Nat} {fp fp2 : Nat → Prop} {d : Dk} {l : Lg} {W W' : World} (h : DL z bd bl fp d l W) (k : Kb fp2 W W') (hn : ∀ j, fp j → ¬ fp2 j) : DL z bd bl fp d l W' := by
  obtain ⟨bm, pl, ms, v, h1, h2, h3⟩ := h
  exact ⟨bm, pl, ms, v, h1.kb k (fun j hj => hn j ((h3 j).2 (.inl (.inl hj)))) (fun m hm j hj => hn j ((h3 j).2 (.inl (.inr ⟨m, hm, hj⟩)))), h2.kb k (fun j hj => hn j ((h3 j).2 (.inr hj))), h3⟩
theorem bss_upto {w : World} {A : Option Addr} {n c k : Nat} {ls : List (List UInt8)} (h : Bss w (.slice A n c) ls) (hk : k ≤ n) : Bss w (.slice A k c) (ls.take k) := by
  obtain ⟨vs, h1, h2⟩ := h
  refine ⟨vs.take k, Sl.upto h1 hk, ?_⟩
  have : ∀ (k : Nat) (a : List Value) (b : List (List UInt8)), All2 (Bs w) a b → All2 (Bs w) (a.take k) (b.take k) := by
    intro k
    induction k with
    | zero => intro a b _; simp [All2]
    | succ k ih =>
      intro a b h
      cases a <;> cases b <;> first | exact trivial | exact h.elim | exact ⟨h.1, ih _ _ h.2⟩
  exact this k _ _ h2
theorem all2_snoc {R : Value → List UInt8 → Prop} : ∀ {a : List Value} {b : List (List UInt8)}, All2 R a b → ∀ {u : Value} {x : List UInt8}, R u x → All2 R (a ++ [u]) (b ++ [x])
  | [], [], _, u, x, hu => ⟨hu, trivial⟩
  | _ :: _, _ :: _, h, u, x, hu => ⟨h.1, all2_snoc h.2 hu⟩
  | [], _ :: _, h, _, _, _ => h.elim
  | _ :: _, [], h, _, _, _ => h.elim
/-- A row that grows, of slices that came in; fp turns nothing of it. -/
structure KRow (W0 W : World) (v : Value) (all : List (List UInt8)) (fp : Nat → Prop) : Prop where
  row : ∃ vs, W.ownsRow W0.heap.size 28 1 v vs.length vs ∧ All2 (Bs W0) vs all
  nfp : ∀ j, v.ownBlock = some j → j < W.heap.size ∧ ¬ fp j
theorem KRow.step {W0 W w : World} {v : Value} {all : List (List UInt8)} {fp fp1 : Nat → Prop} (h : KRow W0 W v all fp) (k : Cont fp W fp1 w) : KRow W0 w v all fp1 := by
  obtain ⟨vs, h1, h2⟩ := h.row
  exact ⟨⟨vs, row_kept h1 k.kb (fun j hj => (h.nfp j hj).2), h2⟩, k.not h.nfp⟩
theorem KRow.ext {W0 W w : World} {v : Value} {all : List (List UInt8)} {fp : Nat → Prop} (h : KRow W0 W v all fp) (he : Ext W w) : KRow W0 w v all fp := h.step ((Cont.refl fun _ h => h).ext he)
theorem KRow.bss {W0 W : World} {v : Value} {all : List (List UInt8)} {fp : Nat → Prop} (h : KRow W0 W v all fp) (hx : Ext W0 W) : Bss W v all := by
  obtain ⟨vs, h1, h2⟩ := h.row
  exact ⟨vs, Ow.sl h1, h2.mono fun _ _ h => h.ext hx⟩
theorem KRow.form {W0 W : World} {v : Value} {all : List (List UInt8)} {fp : Nat → Prop} (h : KRow W0 W v all fp) (hx : Ext W0 W) : ∃ A c, v = .slice A all.length c ∧ all.length ≤ c ∧ c ≤ maxLen := by
  obtain ⟨A, c, e, e1, e2, _⟩ := (h.bss hx).open_
  exact ⟨A, c, e, e1, e2⟩
theorem KRow.more {W0 W2 w3 : World} {v v3 : Value} {vs : List Value} {all : List (List UInt8)} {fp : Nat → Prop} {bd bl : Nat} {d : Dk} {l : Lg} {u : Value} {x : List UInt8}
    (hrow : W2.ownsRow W0.heap.size 28 1 v vs.length vs) (hvs : All2 (Bs W0) vs all) (hn : ∀ j, v.ownBlock = some j → ¬ fp j)
    (hd : DL W0.heap.size bd bl fp d l W2) (hx : Ext W0 W2) (hu : Bs W0 u x)
    (hown : w3.ownsRow W0.heap.size 28 1 v3 (vs.length + 1) (vs ++ [u])) (hg : W2.grownBy w3 v.ownBlock) (hat : v3.ownBlock = v.ownBlock ∨ v3.ownBlock = some W2.heap.size) :
    KRow W0 w3 v3 (all ++ [x]) fp ∧ DL W0.heap.size bd bl fp d l w3 ∧ Ext W0 w3 := by
  refine ⟨⟨⟨vs ++ [u], by simpa using hown, all2_snoc hvs hu⟩, fun j hj => ⟨(hown.lt j hj).2, ?_⟩⟩, hd.other (Kb.grown_ (fp := fun k => v.ownBlock = some k) hg fun _ h => h) (fun j hj hq => hn j hq hj), grown_ext4 hx hrow (Nat.le_refl _) hg⟩
  rcases hat with e | e
  · exact hn j (e ▸ hj)
  · rw [e] at hj
    injection hj with hj
    exact fun hq => by have := hd.lt j hq; omega
end Go.Proofs.YtagghghoimpofaaDoor

/-
  Layer 16: the walk of WalKeeps.
-/
namespace Go.Proofs.YtagghghoimpofaaDoor
open Go Go.RowKit Mono
set_option linter.unusedVariables false
set_option linter.unusedSimpArgs false
set_option maxRecDepth 100000
set_option maxHeartbeats 4000000

theorem KRow.mono {W0 W : World} {v : Value} {all : List (List UInt8)} {fp fp1 : Nat → Prop} (h : KRow W0 W v all fp) (hf : ∀ k, fp1 k → fp k) : KRow W0 W v all fp1 := ⟨h.row, fun j hj => ⟨(h.nfp j hj).1, fun hq => (h.nfp j hj).2 (hf j hq)⟩⟩
theorem arm_S {z bd bm pl pl' : Nat} {W w' : World} {d d' : Dk} {ms : List FilM} (hd' : DkM z w' bd bm pl' d' ms) (hk : Kb (fun k => k = bd) W w') (hp : pl' = pl ∧ d' = d ∨ W.heap.size ≤ pl') : DkS z W w' bd bm pl d ms pl' d' ms :=
  ⟨hd', hk.mono (fun b hb => .inl (.inl hb)), fun k hk2 => by
    rcases hp with ⟨rfl, rfl⟩ | hp
    · exact .inl hk2
    · rcases hk2 with (h1 | h1 | ⟨_, h1⟩ | h1) | h1
      · exact .inl (.inl (.inl h1))
      · exact .inl (.inl (.inr (.inl h1)))
      · exact .inr (by omega)
      · exact .inl (.inl (.inr (.inr (.inr h1))))
      · exact .inl (.inr h1)⟩
theorem power_S {z bd bm pl : Nat} {W w' : World} {d : Dk} {ms : List FilM} (hd' : DkM z w' bd bm pl (dPower d) ms) (hk : Kb (fun k => k = bd) W w') : DkS z W w' bd bm pl d ms pl (dPower d) ms :=
  ⟨hd', hk.mono (fun b hb => .inl (.inl hb)), fun k hk2 => .inl hk2⟩
theorem KI.mono {w w' : Nat} {all : List (List UInt8)} {d : Dk} {l : Lg} (h : KI w all d l) (hw : w ≤ w') : KI w' all d l := ⟨Nat.le_trans h.1 hw, Nat.le_trans h.2.1 hw, h.2.2⟩
theorem dFail_small {c : Nat} {d : Dk} (h : d.SmallC c) (keep : Int) : (dFail d keep).1.SmallC (c + 1) := by
  unfold dFail
  split
  · exact h.more (Nat.le_succ _)
  · exact ⟨by have := h.cnt; show d.ops + (d.fails + 1) ≤ c + 1; omega, fun n k hp => by cases hp⟩
theorem KI.start (size : Nat) (h1 : 1 ≤ size) (h2 : size ≤ 1048576) (p : Nat) (hp : p ≤ 79) (keep : Int) :
    dArm ⟨1048576, [⟨wname 1, [], 0⟩], true, 1, 0, none⟩ (p : Int) keep = (⟨1048576, [⟨wname 1, [], 0⟩], true, 1, 0, some (p, keep)⟩, 0) ∧
    KI 0 [] ⟨1048576, [⟨wname 1, [], 0⟩], true, 1, 0, some (p, keep)⟩ ⟨[⟨1, 0, 0⟩], size, 0, 0⟩ := by
  have hA : dArm ⟨1048576, [⟨wname 1, [], 0⟩], true, 1, 0, none⟩ (p : Int) keep = (⟨1048576, [⟨wname 1, [], 0⟩], true, 1, 0, some (p, keep)⟩, 0) := by
    unfold dArm
    rw [if_neg (by decide), if_neg (by omega), Int.toNat_natCast]
  have hr := (RI.start size h1 h2).ch
  have hok := dArm_ok hr.ok (p : Int) keep
  rw [hA] at hok
  exact ⟨hA, Nat.le_refl _, Nat.le_refl _, .inl ⟨[], [], p, keep, ⟨hok, rfl, hr.fails, hr.pos, hr.segs, hr.recs, hr.last, hr.files⟩, rfl, rfl, by simpa using hp, rfl, rfl⟩⟩

set_option maxHeartbeats 8000000 in
theorem walKeeps_walk (y : Int) (v : Value) (ls : List (WAct × Value)) (nn kp : Int) (W : World) (hT : TbW W) (hv : WAs W v ls) :
    Calls Tryd.prog 6 #[.int .i64 y, v, .int .i64 nn, .int .i64 kp] W fun e w' => e = .returned (.bool true) ∧ Ext W w' := by
  obtain ⟨A, c, rfl, h1, h2, h4⟩ := hv.at_
  unfold maxLen at h2
  have hlm : ls.length ≤ 9223372036854775807 := by omega
  have HLT := Lib.hid (wlight_any _ ls W hv)
  have HIN := Lib.hid hv.in_
  have HT := Lib.hid hT
  have H4 := Lib.hid h4
  have HLV := Lib.hid (fun w (h : Ext W w) => wlives_any w (hT.ext h))
  clear h1 h2 h4 hv hT
  go_enter Tryd.func6, Tryd.ntmps6
  go_wp2_with fail
  refine HLT.out.mono ?_
  rintro e w0 ⟨⟨q, rfl, hq⟩, hx0⟩
  have HX := Lib.hid hx0
  have HLW := Lib.hid (HLV.out w0 hx0)
  clear hx0 HLT
  cases q
  · clear hq
    go_wp2_with fail
    refine HLW.out.mono ?_
    rintro e w1 ⟨rfl, hx1⟩
    go_wp2_with fail
    go_ret
    exact ⟨rfl, HX.out.trans hx1⟩
  · have HW := Lib.hid (hq rfl)
    have HLN := Lib.hid (show ls.length ≤ 200 by have := wasum_len ls; have := HW.out; omega)
    clear hq
    obtain ⟨W5, rfl⟩ : ∃ w, w = w0 := ⟨_, rfl⟩
    have HDN := Lib.hid (dkNew_any 1048576 W5 (by decide))
    have HT1 := Lib.hid (HT.out.ext HX.out)
    go_wp2_with fail
    refine HDN.out.mono ?_
    rintro e w4 ⟨rfl, hx4, hd4⟩
    obtain ⟨q, hq, hqe⟩ := place_int y 199 (by omega)
    obtain ⟨p, hp, hpe⟩ := place_int nn 79 (by omega)
    have hqe2 : wrap64 ((IntKind.u64.wrap y).tmod 200) = (q : Int) := by simpa using hqe
    have hpe2 : wrap64 ((IntKind.u64.wrap nn).tmod 80) = (p : Int) := by simpa using hpe
    obtain ⟨sz, hsz⟩ : ∃ sz, sz = 1 + q := ⟨_, rfl⟩
    have hszw : IntKind.i64.wrap (1 + (q : Int)) = (sz : Int) := by rw [IntWalk.i64_in _ (by omega)]; omega
    have HSZ1 := Lib.hid (show 1 ≤ sz by omega)
    have HSZ2 := Lib.hid (show sz ≤ 1048576 by omega)
    have HOP := Lib.hid (wopen_any hd4 hx4 HT1.out (fresh_ok (by decide)) (fresh_small 1048576) (by decide) (sz : Int))
    have HDL := Lib.hid hd4.lows
    have HPP := Lib.hid hp
    obtain ⟨bd, hbd⟩ : ∃ b, b = W5.heap.size + 1 := ⟨_, rfl⟩
    rw [← hbd] at HOP HDL
    rw [← hbd]
    clear hbd hx4 hd4 HDN hqe hq hsz hpe hp
    go_wp2_with fail
    refine HOP.out.mono ?_
    intro e w5 hq5
    obtain ⟨pl5, ms5, bl, va, vl, rfl, hc5, hk5, hb5⟩ := hq5.some_ (wOpen_fresh sz HSZ1.out HSZ2.out)
    have HC5 := Lib.hid hc5
    have HL0 := Lib.hid (wOpen_lok (fresh_ok (room := 1048576) (by decide)) (sz : Int) (l := ⟨[⟨1, 0, 0⟩], sz, 0, 0⟩) (by rw [wOpen_fresh sz HSZ1.out HSZ2.out]))
    have HS0 := Lib.hid (show (⟨1048576, [⟨wname 1, [], 0⟩], true, 1, 0, none⟩ : Dk).SmallC 2 by have := wOpen_small (fresh_small 1048576) (sz : Int); rw [wOpen_fresh sz HSZ1.out HSZ2.out] at this; exact this)
    obtain ⟨hst1, hst2⟩ := KI.start sz HSZ1.out HSZ2.out p HPP.out kp
    have hsm1 := dArm_small HS0.out (p : Int) kp (by have := HPP.out; omega)
    have har := arm_any hc5.hd (p : Int) kp hc5.hx.size
    rw [hst1] at har hsm1
    have HAR := Lib.hid har
    have HSM1 := Lib.hid hsm1
    have HKI1 := Lib.hid hst2
    clear hq5 hc5 hk5 hb5 HOP hqe2 hszw hst1 hst2 hsm1 har
    go_wp2_with fail
    refine HAR.out.mono ?_
    rintro e w6 ⟨pl6, rfl, hd6, hkb6, hpl6⟩
    obtain ⟨hc6, -⟩ := HC5.out.dks (arm_S hd6 hkb6 hpl6)
    have HY6 := Lib.hid hc6.hx
    have HD6 := Lib.hid hc6.dl
    clear hd6 hkb6 hpl6 hc6 HAR hpe2
    go_wp2_with fail
    go_loopw [13, 57] (fun av iv wr => ∃ (k : Nat) (al : List (List UInt8)) (d : Dk) (l : Lg) (fp : Nat → Prop), k ≤ ls.length ∧ iv = .int .i64 (k : Int) ∧ KI (wasum (ls.take k)) al d l ∧ d.SmallC (3 + 3 * k) ∧ LOk (2 * k) l ∧ DL W5.heap.size bd bl fp d l wr ∧ KRow W5 wr av al fp ∧ Ext W5 wr) (fun _ iv _ => ls.length - (intOf iv).toNat)
    case atStart => exact ⟨0, [], _, _, _, Nat.zero_le _, rfl, HKI1.out, HSM1.out, HL0.out, HD6.out, ⟨⟨[], World.ownsRow_nil _ _ _ _, trivial⟩, fun j hj => by cases hj⟩, HY6.out⟩
    case round =>
      obtain ⟨k, al, d, l, fp, hk, rfl, hki, hsm, hlo, hd, hkr, hy⟩ := hrel
      have HKI := Lib.hid hki
      have HSM := Lib.hid hsm
      have HLO := Lib.hid hlo
      have HD := Lib.hid hd
      have HY := Lib.hid hy
      have HKR := Lib.hid hkr
      have HKL := Lib.hid hk
      obtain ⟨Al, cl, rfl, hcl1, hcl2⟩ := hkr.form hy
      unfold maxLen at hcl2
      clear hki hsm hlo hd hy hk hkr
      by_cases hlt : k < ls.length
      · obtain ⟨b, off, rfl, hb, hc⟩ := H4.out (by omega)
        obtain ⟨⟨a, x⟩, hget⟩ : ∃ p, ls[k]? = some p := ⟨_, List.getElem?_eq_getElem hlt⟩
        have cc := hc k _ hget
        have hx := HX.out.trans HY.out
        have c0 : wr.cell? ⟨b, off + k * 5, none⟩ = some (.int .i64 a.kind) := by have := (hx.cell (p := ⟨b, off + (k * 5 + 0), none⟩) hb).trans (cc 0 _ rfl); rwa [← Nat.add_assoc] at this
        have c1 : wr.cell? ⟨b, off + k * 5 + 1, none⟩ = some x := by have := (hx.cell (p := ⟨b, off + (k * 5 + 1), none⟩) hb).trans (cc 1 _ rfl); rwa [← Nat.add_assoc] at this
        have c2 : wr.cell? ⟨b, off + k * 5 + 2, none⟩ = some (strV a.name) := by have := (hx.cell (p := ⟨b, off + (k * 5 + 2), none⟩) hb).trans (cc 2 _ rfl); rwa [← Nat.add_assoc] at this
        have c3 : wr.cell? ⟨b, off + k * 5 + 3, none⟩ = some (.int .i64 a.n) := by have := (hx.cell (p := ⟨b, off + (k * 5 + 3), none⟩) hb).trans (cc 3 _ rfl); rwa [← Nat.add_assoc] at this
        have c4 : wr.cell? ⟨b, off + k * 5 + 4, none⟩ = some (.int .i64 a.keep) := by have := (hx.cell (p := ⟨b, off + (k * 5 + 4), none⟩) hb).trans (cc 4 _ rfl); rwa [← Nat.add_assoc] at this
        have hin := HIN.out _ (List.mem_of_getElem? hget)
        dsimp only at hin
        obtain ⟨Ad, cd, hv, _, hcd2, _, _⟩ := hin.1.open_
        subst hv
        unfold strV at c2
        unfold maxLen at hcd2
        have hdl9 : a.data.length ≤ 9223372036854775807 := by omega
        have HBA := Lib.hid (hin.1.ext HX.out)
        have HS := Lib.hid (wasum_take hget)
        dsimp only at HS
        have HWK := Lib.hid (show wasum (ls.take k) + (50 + a.data.length + a.name.length) ≤ 10000 by rw [← HS.out]; exact Nat.le_trans (wasum_take_le ls _) HW.out)
        have HLT := Lib.hid hlt
        clear hc cc hin hget hx hcd2 hlt
        by_cases hk0 : a.kind = 0
        · rw [hk0] at c0
          have hx0 := ext_alloc wr (.cells #[.int .i64 0, .slice Ad a.data.length cd, .string ⟨a.name.toArray⟩, .int .i64 a.n, .int .i64 a.keep] 57)
          obtain ⟨bm, pl, ms, v, hC, -⟩ := (HD.out.ext hx0).cx (HY.out.trans hx0) HT1.out
          have hon := wOn_any hC.hd hC.hl
          have hka := HKI.out.append a.data (by have := HWK.out; omega)
          have HBOX := Lib.hid (BlkT.new wr #[.int .i64 0, .slice Ad a.data.length cd, .string ⟨a.name.toArray⟩, .int .i64 a.n, .int .i64 a.keep] 57)
          have HX0 := Lib.hid hx0
          have hsm' := wAppend_small HSM.out l a.data
          have hlo' := wAppend_lok (d := d) (rec := a.data) HLO.out
          clear hC hx0
          by_cases hf : wFault d l = 0
          · rw [show decide (wFault d l = 0) = true from decide_eq_true hf] at hon
            rw [if_pos hf] at hka
            have HON := Lib.hid hon
            have HKA := Lib.hid hka
            have HSM' := Lib.hid hsm'
            have HLO' := Lib.hid hlo'
            clear hon hka hsm' hlo' hf
            go_wp2_with fail
            refine HON.out.mono ?_
            rintro e w7 ⟨rfl, hx7⟩
            have HX7 := Lib.hid (HX0.out.trans hx7)
            have HBOX7 := Lib.hid (HBOX.out.ext hx7)
            have k1 := HBOX7.out.blk.cell (i := 1) rfl
            obtain ⟨vs, hrow, hvs⟩ := (HKR.out.ext HX7.out).row
            have hvl := hvs.length
            have hrow2 := hrow
            rw [hvl] at hrow2
            obtain ⟨i0, hi, hz0, hz1, hz2⟩ := info_parts infoBs
            have HLE := Lib.hid (show al.length ≤ 10000 by have := HKI.out.2.1; have := HWK.out; omega)
            have HXS := Lib.hid (show W5.heap.size ≤ w7.heap.size from (HY.out.trans HX7.out).size)
            clear c0 c1 c2 c3 c4 HON hx7
            go_wp2_with (first
              | (at_builtin; refine wpList_append_own_at _ rfl (.tmp 67) (.tmp 70) 27 rfl W5.heap.size 28 i0 (.slice none 0 0) 1 24 Tryd.underlying27 hi hz0 hz1 hz2 rfl (by decide) _ _ _ rfl (hrow2.alloc _) ⟨w7.heap.size, 0, none⟩ 1 1 [.slice Ad a.data.length cd] rfl rfl (cell_one_new _ _ _) (by simp [Value.oneCell']) (by unfold maxLen; have := HLE.out; omega) (by have := HLE.out; omega) (by have := HXS.out; simp; omega) ?_; intro v3 w3 hown3 hg3 hnil3 hat3; rw [← hvl] at hown3; obtain ⟨hkr3, hd3, hy3⟩ := KRow.more (hrow.alloc _) hvs (fun j hj => (HKR.out.nfp j hj).2) ((HD.out.ext HX7.out).ext (ext_alloc _ _)) ((HY.out.trans HX7.out).trans (ext_alloc _ _)) HBA.out hown3 hg3 hat3; have hbx3 := (HBOX7.out.ext (ext_alloc w7 (.cells #[.slice Ad a.data.length cd] 28))).kb (Kb.grown_ (fp := fun k => (Value.slice Al al.length cl).ownBlock = some k) hg3 (fun _ h => h)) (fun e => absurd (HKR.out.nfp _ e).1 (Nat.lt_irrefl _)); have k3 := hbx3.blk.cell (i := 1) rfl)
              | fail)
            obtain ⟨al2, hal2⟩ : ∃ z, z = al ++ [a.data] := ⟨_, rfl⟩
            rw [← hal2] at HKA hkr3
            obtain ⟨A3, c3, rfl, -, -⟩ := hkr3.form hy3
            clear hown3 hg3 hnil3 hat3 hbx3 hrow hrow2 hvs hvl hal2
            have hap := wAppend_any hd3 hy3 HT1.out HKI.out.ok HLO.out.ne HLO.out.pos HLO.out.nx9 HSM.out (by have := HLN.out; have := HKL.out; omega) (Nat.le_trans HLO.out.len (by have := HLN.out; have := HKL.out; omega)) (Nat.le_trans HLO.out.bytes (by have := HLN.out; have := HKL.out; omega)) (HBA.out.ext hy3)
            have hka2 := HKA.out
            have hsm2 := HSM'.out
            have hlo2 := HLO'.out
            generalize wAppend d l a.data = X at hap hka2 hsm2 hlo2
            obtain ⟨⟨d', l'⟩, n', e'⟩ := X
            dsimp only at hap hka2 hsm2 hlo2
            have HAP := Lib.hid hap
            have HKA2 := Lib.hid (hka2.1.mono (w' := wasum (ls.take (k + 1))) (by rw [HS.out]; omega))
            have HSM2 := Lib.hid (hsm2.more (c' := 3 + 3 * (k + 1)) (by omega))
            have HLO2 := Lib.hid (hlo2.more (c' := 2 * (k + 1)) (by omega))
            have HKR3 := Lib.hid hkr3
            have HY3 := Lib.hid hy3
            have HD3 := Lib.hid hd3
            have hor := hka2.2
            have hkw : IntKind.i64.wrap ((k : Int) + 1) = (k : Int) + 1 := by rw [IntWalk.i64_in _ (by have := HLN.out; have := HKL.out; omega)]
            clear hap hka2 hsm2 hlo2 hkr3 hy3 hd3 HKA HSM' HLO'
            refine HAP.out.mono ?_
            rintro e w8 ⟨rfl, hs8⟩
            obtain ⟨fp8, hd8, hk8⟩ := Cont.of_dls hs8
            have HKR8 := Lib.hid (HKR3.out.step hk8)
            have HY8 := Lib.hid (hk8.low HY3.out HD3.out.low)
            have HD8 := Lib.hid hd8
            clear hs8 hd8 hk8 HAP
            rcases hor with ⟨rfl, rfl⟩ | rfl
            all_goals
              go_wp2_with fail
              go_roundw
              case rel => exact ⟨k + 1, al2, d', l', fp8, HLT.out, by go_num, HKA2.out, HSM2.out, HLO2.out, HD8.out, HKR8.out, HY8.out⟩
              case measure => have := HLT.out; simp [intOf]; omega
          · rw [show decide (wFault d l = 0) = false from decide_eq_false hf] at hon
            rw [if_neg hf] at hka
            have HON := Lib.hid hon
            have HKA := Lib.hid hka
            have HSM' := Lib.hid hsm'
            have HLO' := Lib.hid hlo'
            clear hon hka hsm' hlo' hf
            go_wp2_with fail
            refine HON.out.mono ?_
            rintro e w7 ⟨rfl, hx7⟩
            have HX7 := Lib.hid (HX0.out.trans hx7)
            have HBOX7 := Lib.hid (HBOX.out.ext hx7)
            have k1 := HBOX7.out.blk.cell (i := 1) rfl
            have hd3 := HD.out.ext HX7.out
            have hy3 := HY.out.trans HX7.out
            have hkr3 := HKR.out.ext HX7.out
            clear c0 c1 c2 c3 c4 HON hx7
            have hap := wAppend_any hd3 hy3 HT1.out HKI.out.ok HLO.out.ne HLO.out.pos HLO.out.nx9 HSM.out (by have := HLN.out; have := HKL.out; omega) (Nat.le_trans HLO.out.len (by have := HLN.out; have := HKL.out; omega)) (Nat.le_trans HLO.out.bytes (by have := HLN.out; have := HKL.out; omega)) (HBA.out.ext hy3)
            have hka2 := HKA.out
            have hsm2 := HSM'.out
            have hlo2 := HLO'.out
            generalize wAppend d l a.data = X at hap hka2 hsm2 hlo2
            obtain ⟨⟨d', l'⟩, n', e'⟩ := X
            dsimp only at hap hka2 hsm2 hlo2
            have HAP := Lib.hid hap
            have HKA2 := Lib.hid (hka2.1.mono (w' := wasum (ls.take (k + 1))) (by rw [HS.out]; omega))
            have HSM2 := Lib.hid (hsm2.more (c' := 3 + 3 * (k + 1)) (by omega))
            have HLO2 := Lib.hid (hlo2.more (c' := 2 * (k + 1)) (by omega))
            have HKR3 := Lib.hid hkr3
            have HY3 := Lib.hid hy3
            have HD3 := Lib.hid hd3
            have hor := hka2.2
            have hkw : IntKind.i64.wrap ((k : Int) + 1) = (k : Int) + 1 := by rw [IntWalk.i64_in _ (by have := HLN.out; have := HKL.out; omega)]
            clear hap hka2 hsm2 hlo2 hkr3 hy3 hd3 HKA HSM' HLO'
            go_wp2_with fail
            refine HAP.out.mono ?_
            rintro e w8 ⟨rfl, hs8⟩
            obtain ⟨fp8, hd8, hk8⟩ := Cont.of_dls hs8
            have HKR8 := Lib.hid (HKR3.out.step hk8)
            have HY8 := Lib.hid (hk8.low HY3.out HD3.out.low)
            have HD8 := Lib.hid hd8
            clear hs8 hd8 hk8 HAP
            rcases hor with ⟨rfl, rfl⟩ | rfl
            all_goals
              go_wp2_with fail
              go_roundw
              case rel => exact ⟨k + 1, al, d', l', fp8, HLT.out, by go_num, HKA2.out, HSM2.out, HLO2.out, HD8.out, HKR8.out, HY8.out⟩
              case measure => have := HLT.out; simp [intOf]; omega
          
        by_cases hk1 : a.kind = 1
        · rw [hk1] at c0
          have hx0 := ext_alloc wr (.cells #[.int .i64 1, .slice Ad a.data.length cd, .string ⟨a.name.toArray⟩, .int .i64 a.n, .int .i64 a.keep] 57)
          have hd3 := HD.out.ext hx0
          have hy3 := HY.out.trans hx0
          have hkr3 := HKR.out.ext hx0
          have hap := wSync_any hd3 hy3 HT1.out HKI.out.ok (HSM.out.small (by have := HLN.out; have := HKL.out; omega)) HLO.out.ne HLO.out.pos (Nat.le_trans HLO.out.nx (by decide))
          have hka2 := HKI.out.sync (by have := HWK.out; omega)
          have hsm2 := wSync_small HSM.out l
          have hlo2 := wSync_lok (d := d) HLO.out
          generalize wSync d l = X at hap hka2 hsm2 hlo2
          obtain ⟨⟨d', l'⟩, e'⟩ := X
          dsimp only at hap hka2 hsm2 hlo2
          have HAP := Lib.hid hap
          have HKA2 := Lib.hid (hka2.mono (w' := wasum (ls.take (k + 1))) (by rw [HS.out]; omega))
          have HSM2 := Lib.hid (hsm2.more (c' := 3 + 3 * (k + 1)) (by omega))
          have HLO2 := Lib.hid (hlo2.more (c' := 2 * (k + 1)) (by omega))
          have HKR3 := Lib.hid hkr3
          have HY3 := Lib.hid hy3
          have HD3 := Lib.hid hd3
          have hkw : IntKind.i64.wrap ((k : Int) + 1) = (k : Int) + 1 := by rw [IntWalk.i64_in _ (by have := HLN.out; have := HKL.out; omega)]
          clear hap hka2 hsm2 hlo2 hkr3 hy3 hd3 hx0
          go_wp2_with fail
          refine HAP.out.mono ?_
          rintro e w8 ⟨rfl, hs8⟩
          obtain ⟨fp8, hd8, hk8⟩ := Cont.of_dls hs8
          have HKR8 := Lib.hid (HKR3.out.step hk8)
          have HY8 := Lib.hid (hk8.low HY3.out HD3.out.low)
          have HD8 := Lib.hid hd8
          clear hs8 hd8 hk8 HAP
          go_wp2_with fail
          go_roundw
          case rel => exact ⟨k + 1, al, d', l', fp8, HLT.out, by go_num, HKA2.out, HSM2.out, HLO2.out, HD8.out, HKR8.out, HY8.out⟩
          case measure => have := HLT.out; simp [intOf]; omega
        · have hkw : IntKind.i64.wrap ((k : Int) + 1) = (k : Int) + 1 := by rw [IntWalk.i64_in _ (by have := HLN.out; have := HKL.out; omega)]
          go_wp2_with fail
          go_roundw
          case rel => exact ⟨k + 1, al, d, l, fp, HLT.out, by go_num, HKI.out.mono (by rw [HS.out]; omega), HSM.out.more (by omega), HLO.out.more (by omega), HD.out.ext (ext_alloc _ _), HKR.out.ext (ext_alloc _ _), HY.out.trans (ext_alloc _ _)⟩
          case measure => have := HLT.out; simp [intOf]; omega
      · have hkl : k = ls.length := by have := HKL.out; omega
        have hki := HKI.out
        rw [hkl, List.take_length] at hki
        obtain ⟨bm, pl, ms, v, hc, hfp⟩ := HD.out.cx HY.out HT1.out
        have HC6 := Lib.hid hc
        have HKR6 := Lib.hid (HKR.out.step hfp)
        have HSU := Lib.hid (wSure_any hc.hd hc.hl HLO.out.ne (Nat.le_trans HLO.out.nx (by decide)))
        have hdd := hki.fail HW.out kp
        obtain ⟨d2, l2, r, o1, o2, o3, o4, o5, o6, o7, o8, cs, cc, P, f, g1, g2, g3, g4, g5, g6, g7, g8⟩ := dead_open hdd 50 (by decide) (by decide)
        obtain ⟨d3, l3, a1, a2⟩ := again_open g1 g3 g4 g5 g6 g7 g8 70 (by decide) (by decide)
        rw [g2] at a2
        have O1 := Lib.hid (show wOpen (dPower (dFail d kp).1) 50 = ⟨d2, some l2, r, 0⟩ from o1)
        have A1 := Lib.hid a1
        have A2 := Lib.hid (show wOpen (dPower (d2.lose 0)) 70 = ⟨d3, some l3, r, 0⟩ from a2)
        have HOKD := Lib.hid (dPower_ok (dFail_ok hki.ok kp))
        have HOK2 := Lib.hid (show d2.Ok by have := wOpen_ok HOKD.out 50; rw [O1.out] at this; exact this)
        have HLO2 := Lib.hid (wOpen_lok HOKD.out 50 (l := l2) (by rw [O1.out]))
        have HSMD := Lib.hid (dPower_small (dFail_small HSM.out kp))
        have HSM2 := Lib.hid (show d2.SmallC (3 + 3 * k + 1 + 1 + 2) by have := wOpen_small HSMD.out 50; rw [O1.out] at this; exact this)
        have hnal : al.length ≤ 10000 := by have := hki.2.1; have := HW.out; omega
        obtain ⟨nr, hnr⟩ : ∃ z, z = r.length := ⟨_, rfl⟩
        obtain ⟨su, hsu⟩ : ∃ z, z = l.sure := ⟨_, rfl⟩
        obtain ⟨n1, hn1⟩ : ∃ z, z = nr + 1 := ⟨_, rfl⟩
        rw [← hnr] at o2 o3 o4 o5 o6
        rw [← hsu] at o3 HSU
        rw [← hn1] at o5
        have H2 := Lib.hid o2
        have H5 := Lib.hid o5
        have H6 := Lib.hid o6
        have HNR := Lib.hid hnr
        have HN1 := Lib.hid hn1
        have hw1 : IntKind.i64.wrap ((nr : Int) + 1) = (n1 : Int) := by rw [IntWalk.i64_in _ (by omega)]; omega
        have hlt1 : ¬ (nr : Int) < (su : Int) := by omega
        have hlt2 : ¬ (al.length : Int) < (nr : Int) := by omega
        have hlt3 : (nr : Int) ≤ (cl : Int) := by omega
        have hlt4 : ¬ (nr : Int) < 0 := by omega
        have hlt5 : ¬ (k : Int) < (ls.length : Int) := by omega
        have HLE := Lib.hid (show nr ≤ al.length from o4)
        clear hc hfp hdd o1 o2 o3 o4 o5 o6 o7 o8 g1 g2 g3 g4 g5 g6 g7 g8 a1 a2 hki hnr hsu hn1 hkl hlt
        go_wp2_with fail
        refine HSU.out.mono ?_
        rintro e w7 ⟨rfl, hx7⟩
        have HC7 := Lib.hid (HC6.out.ext hx7)
        have HKR7 := Lib.hid (HKR6.out.ext hx7)
        have HFA := Lib.hid (fail_any HC7.out.hd HKI.out.ok (HSM.out.small (by have := HLN.out; have := HKL.out; omega)) kp)
        clear hx7 HSU
        go_wp2_with fail
        refine HFA.out.mono ?_
        rintro e w8 ⟨pl8, ms8, rfl, hs8⟩
        obtain ⟨hc8, hk8⟩ := HC7.out.dks hs8
        have HKR8 := Lib.hid (HKR7.out.step hk8)
        have HC8 := Lib.hid hc8
        have HPW := Lib.hid (power_any hc8.hd)
        clear hs8 hc8 hk8 HFA
        go_wp2_with fail
        refine HPW.out.mono ?_
        rintro e w9 ⟨rfl, hd9, hkb9⟩
        obtain ⟨hc9, hk9⟩ := HC8.out.dks (power_S hd9 hkb9)
        have HKR9 := Lib.hid ((HKR8.out.step hk9).mono (fp1 := dall bd bm pl8 (dPower (dFail d kp).1) ms8) fun k h => .inl h)
        have HC9 := Lib.hid hc9
        have HOP := Lib.hid (wopen_any hc9.hd hc9.hx HT1.out HOKD.out HSMD.out (by have := HLN.out; have := HKL.out; omega) 50)
        clear hd9 hkb9 hc9 hk9 HPW
        go_wp2_with fail
        refine HOP.out.mono ?_
        intro e w10 hq10
        obtain ⟨pl10, ms10, bl2, va2, v2, rfl, hc10, hk10, hb10⟩ := hq10.some_ O1.out
        have HKR10 := Lib.hid (HKR9.out.step hk10)
        obtain ⟨Av, cv, rfl⟩ := hb10.bsso.form
        have HC10 := Lib.hid hc10
        have HB10 := Lib.hid hb10
        have hsa := rSame_any _ _ _ _ w10 hb10.bsso.bss (bss_upto (HKR10.out.bss hc10.hx) HLE.out)
        rw [show sameB r (al.take nr) = true by unfold sameB; rw [← H2.out]; exact beq_self_eq_true _, ← HNR.out] at hsa
        rw [← HNR.out]
        have HSA := Lib.hid hsa
        clear hq10 hc10 hk10 hb10 hsa HOP
        go_wp2_with fail
        refine HSA.out.mono ?_
        rintro e w11 ⟨rfl, hx11⟩
        have HC11 := Lib.hid (HC10.out.ext hx11)
        have HB11 := Lib.hid (HB10.out.kb (Kb.of_ext hx11))
        have HN := Lib.hid (wNext_any HC11.out.hd HC11.out.hl HLO2.out.ne (Nat.le_trans HLO2.out.nx (by decide)))
        rw [H5.out] at HN
        clear hx11 HSA
        go_wp2_with fail
        refine HN.out.mono ?_
        rintro e w12 ⟨rfl, hx12⟩
        have HC12 := Lib.hid (HC11.out.ext hx12)
        have HB12 := Lib.hid (HB11.out.kb (Kb.of_ext hx12))
        have HS2 := Lib.hid (wSure_any HC12.out.hd HC12.out.hl HLO2.out.ne (Nat.le_trans HLO2.out.nx (by decide)))
        rw [H6.out] at HS2
        clear hx12 HN
        go_wp2_with fail
        refine HS2.out.mono ?_
        rintro e w13 ⟨rfl, hx13⟩
        have HC13 := Lib.hid (HC12.out.ext hx13)
        have HB13 := Lib.hid (HB12.out.kb (Kb.of_ext hx13))
        have hfa := fail_any HC13.out.hd HOK2.out (HSM2.out.small (by have := HLN.out; have := HKL.out; omega)) 0
        rw [A1.out] at hfa
        have HFA := Lib.hid hfa
        clear hx13 hfa HS2
        go_wp2_with fail
        refine HFA.out.mono ?_
        rintro e w14 ⟨pl14, ms14, rfl, hs14⟩
        obtain ⟨hc14, hk14⟩ := HC13.out.dks hs14
        have HB14 := Lib.hid (HB13.out.step hk14)
        have HC14 := Lib.hid hc14
        have HPW := Lib.hid (power_any hc14.hd)
        clear hs14 hc14 hk14 HFA
        go_wp2_with fail
        refine HPW.out.mono ?_
        rintro e w15 ⟨rfl, hd15, hkb15⟩
        obtain ⟨hc15, hk15⟩ := HC14.out.dks (power_S hd15 hkb15)
        have HB15 := Lib.hid ((HB14.out.step hk15).mono (fp' := dall bd bm pl14 (dPower (d2.lose 0)) ms14) fun k h _ => .inl h)
        have HC15 := Lib.hid hc15
        have HOP := Lib.hid (wopen_any hc15.hd hc15.hx HT1.out (dPower_ok (HOK2.out.lose 0)) (c0 := 3 + 3 * k + 1 + 1 + 2 + 1 + 1) (by have := dPower_small (dFail_small HSM2.out 0); rw [A1.out] at this; exact this) (by have := HLN.out; have := HKL.out; omega) 70)
        clear hd15 hkb15 hc15 hk15 HPW
        go_wp2_with fail
        refine HOP.out.mono ?_
        intro e w16 hq16
        obtain ⟨pl16, ms16, bl3, va3, v3, rfl, hc16, hk16, hb16⟩ := hq16.some_ A2.out
        have HB16 := Lib.hid (HB15.out.step hk16)
        obtain ⟨Aw, cw, rfl⟩ := hb16.bsso.form
        have HC16 := Lib.hid hc16
        have hsa := rSame_any _ _ _ _ w16 hb16.bsso.bss HB16.out.bsso.bss
        rw [show sameB r r = true by unfold sameB; exact beq_self_eq_true _, ← HNR.out] at hsa
        rw [← HNR.out]
        have HSA := Lib.hid hsa
        clear hq16 hc16 hk16 hb16 hsa HOP
        go_wp2_with fail
        refine HSA.out.mono ?_
        rintro e w17 ⟨rfl, hx17⟩
        have HY17 := Lib.hid (HX.out.trans (HC16.out.hx.trans hx17))
        have HLE2 := Lib.hid (HLV.out w17 HY17.out)
        clear hx17 HSA
        go_wp2_with fail
        refine HLE2.out.mono ?_
        rintro e w18 ⟨rfl, hx18⟩
        go_wp2_with fail
        go_ret
        exact ⟨rfl, HY17.out.trans hx18⟩
end Go.Proofs.YtagghghoimpofaaDoor
