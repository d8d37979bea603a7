/-
  Layer 19: a slice of notes; the law's light: a true answer bounds the notes.
-/
import Derived.Test.YtacabcpjaadijaaDoorCapPlain
import Derived.Test.YtacabcpjaadijaaDoorChGood
import Derived.Test.YtacabcpjaadijaaDoorMonoLast
namespace Go.Proofs.YtacabcpjaadijaaDoor
open Go Go.RowKit Mono Num
set_option linter.unusedVariables false
set_option linter.unusedSimpArgs false
set_option maxRecDepth 100000

/-- The cells of notes, each a name and a text. -/
def nsC (l : List (List UInt8 × List UInt8)) : List Value := l.flatMap fun x => [strV x.1, strV x.2]
theorem nsC_len (l : List (List UInt8 × List UInt8)) : (nsC l).length = l.length * 2 := by
  induction l with
  | nil => rfl
  | cons a l ih => unfold nsC at ih ⊢; rw [List.flatMap_cons, List.length_append, ih]; simp; omega
theorem nsC_get : ∀ (l : List (List UInt8 × List UInt8)) (i : Nat) (x : List UInt8 × List UInt8), l[i]? = some x → (nsC l)[i * 2]? = some (strV x.1) ∧ (nsC l)[i * 2 + 1]? = some (strV x.2)
  | y :: l, 0, x, h => by
    obtain rfl : y = x := by simpa using h
    simp [nsC]
  | y :: l, i + 1, x, h => by
    have h1 := nsC_get l i x (by simpa using h)
    have h2 : nsC (y :: l) = [strV y.1, strV y.2] ++ nsC l := by unfold nsC; simp
    have e : ∀ j, (nsC (y :: l))[(i + 1) * 2 + j]? = (nsC l)[i * 2 + j]? := fun j => by
      rw [h2, List.getElem?_append_right (by simp; omega)]
      congr 1
      simp
      omega
    exact ⟨(e 0).trans h1.1, (e 1).trans h1.2⟩
/-- A slice of notes. -/
def Ns (w : World) (v : Value) (l : List (List UInt8 × List UInt8)) : Prop := Fl w v l.length (nsC l) ∧ ∀ x ∈ l, x.1.length ≤ maxLen ∧ x.2.length ≤ maxLen
theorem Ns.ext {w w' : World} {v : Value} {l : List (List UInt8 × List UInt8)} (h : Ns w v l) (he : Ext w w') : Ns w' v l := ⟨h.1.ext he, h.2⟩
theorem Ns.at_ {w : World} {v : Value} {l : List (List UInt8 × List UInt8)} (h : Ns w v l) : ∃ A c, v = .slice A l.length c ∧ l.length ≤ c ∧ c ≤ 9223372036854775807 ∧ (A = none → c = 0) ∧
    (0 < l.length → ∃ b off, A = some ⟨b, off, none⟩ ∧ b < w.heap.size ∧ ∀ (i : Nat), i < l.length → ∃ nm tx, l[i]? = some (nm, tx) ∧ w.cell? ⟨b, off + i * 2, none⟩ = some (strV nm) ∧ w.cell? ⟨b, off + i * 2 + 1, none⟩ = some (strV tx) ∧ nm.length ≤ maxLen ∧ tx.length ≤ maxLen) := by
  obtain ⟨⟨A, c, hv, h1, h2, h3, h4⟩, hin⟩ := h
  refine ⟨A, c, hv, h1, by unfold maxLen at h2; omega, h3, fun h0 => ?_⟩
  obtain ⟨b, off, hA, hb, hc⟩ := h4 h0
  refine ⟨b, off, hA, hb, fun i hi => ?_⟩
  obtain ⟨⟨nm, tx⟩, hx⟩ : ∃ x, l[i]? = some x := ⟨_, List.getElem?_eq_getElem hi⟩
  have hm := hin _ (List.mem_of_getElem? hx)
  obtain ⟨g0, g1⟩ := nsC_get l i _ hx
  have c1 := hc (i * 2 + 1) _ g1
  rw [← Nat.add_assoc] at c1
  exact ⟨nm, tx, hx, hc (i * 2) _ g0, c1, hm.1, hm.2⟩

/-- A sum that is asked about up to 12000 alone. -/
def isUp2 (lo : Int) : MRel := ⟨fun v _ => ∃ z : Int, v = .int .i64 z ∧ 0 ≤ z ∧ z ≤ 12001 ∧ (z ≤ 12000 → lo ≤ z), fun _ _ _ h _ => h⟩
set_option maxHeartbeats 1000000 in
theorem add_up2 (a b lo : Int) (w : World) (ha : 0 ≤ a) (ha2 : a ≤ 12001) (hb : 0 ≤ b) (hb2 : b ≤ 9223372036854775807) (hlo : a ≤ 12000 → lo ≤ a) : Calls Tryd.prog 25 #[.int .i64 a, .int .i64 b, .int .i64 12000] w fun e w' => (∃ z : Int, e = .returned (.int .i64 z) ∧ 0 ≤ z ∧ z ≤ 12001 ∧ (z ≤ 12000 → lo + b ≤ z)) ∧ w = w' := by
  go_enter Tryd.func25, Tryd.ntmps25
  by_cases h1 : 12000 < a
  · go_wp2_with fail
    go_ret
    exact ⟨⟨_, rfl, by omega, by omega, by omega⟩, rfl⟩
  by_cases h2 : 12000 < b
  · go_wp2_with fail
    go_ret
    exact ⟨⟨_, rfl, by omega, by omega, by omega⟩, rfl⟩
  by_cases h3 : 12000 - b < a
  · go_wp2_with fail
    go_ret
    exact ⟨⟨_, rfl, by omega, by omega, by omega⟩, rfl⟩
  · go_wp2_with fail
    go_ret
    exact ⟨⟨_, rfl, by omega, by omega, by omega⟩, rfl⟩

def LightN (l : List (List UInt8 × List UInt8)) (q : Bool) : Prop := q = true → l.length ≤ 1200 ∧ ∀ x ∈ l, x.1.length ≤ 12000 ∧ x.2.length ≤ 12000
def LightQ (l : List (List UInt8 × List UInt8)) (e : Ending) : Prop := ∃ q : Bool, e = .returned (.bool q) ∧ LightN l q
theorem LightQ.mk {l : List (List UInt8 × List UInt8)} {e : Ending} (q : Bool) (h : e = .returned (.bool q)) (k : LightN l q) : LightQ l e := ⟨q, h, k⟩
set_option maxHeartbeats 8000000 in
theorem light19_any (v : Value) (l : List (List UInt8 × List UInt8)) (w : World) (hl : Ns w v l) :
    Calls Tryd.prog 19 #[v] w fun e w' => LightQ l e ∧ Ext w w' := by
  obtain ⟨A, c, rfl, g1, g2, g3, g4⟩ := hl.at_
  have H4 := Lib.hid g4
  clear g4 hl
  go_enter Tryd.func19, Tryd.ntmps19
  go_wp2_with fail
  go_loopw [3, 4] (fun n i wr => ∃ (k : Nat) (z : Int), k ≤ l.length ∧ i = .int .i64 k ∧ n = .int .i64 z ∧ 0 ≤ z ∧ z ≤ 12001 ∧ (z ≤ 12000 → 10 * (k : Int) ≤ z ∧ ∀ j x, j < k → l[j]? = some x → (x.1.length : Int) ≤ z ∧ (x.2.length : Int) ≤ z) ∧ Ext w wr) (fun _ i _ => l.length - (intOf i).toNat)
  case atStart => exact ⟨0, 0, Nat.zero_le _, rfl, rfl, by decide, by decide, (fun _ => ⟨by decide, fun j x hj => absurd hj (by omega)⟩), Ext.refl _⟩
  case round =>
    obtain ⟨i, z, hi, rfl, rfl, hz0, hz1, hzl, hx⟩ := hrel
    have HZL := Lib.hid hzl
    clear hzl
    by_cases hlt : i < l.length
    · by_cases hz : z ≤ 12000
      · obtain ⟨b, off, rfl, hb, hc⟩ := H4.out (by omega)
        obtain ⟨nm, tx, hget, p0, p1, hm1, hm2⟩ := hc i hlt
        have HA := Lib.hid (And.intro p0 p1)
        have HG := Lib.hid hget
        clear p0 p1 hc hget
        unfold maxLen at hm1 hm2
        go_wp2_with fail
        refine wp_region_mono (by kernel_rfl) (by kernel_rfl) ?_
        refine tele_move rfl (.inl rfl) rfl (isV (.int .i64 z)) (fun ρ w' h => h) ?_
        refine tele_call rfl rfl Tryd.func25 (by kernel_rfl) (isUp2 (z + 10)) (fun _ _ _ => rfl) ?_ ?_
        · rintro ρ w' he ⟨h15, -⟩
          have e15 : ρ 15 = .int .i64 z := h15
          have z0 := hz0; have z1 := hz1; have zl : z ≤ 12000 → (z : Int) ≤ z := fun _ => Int.le_refl _
          simp only [evR, List.map_toArray, List.map_cons, List.map_nil, e15]
          refine (add_up2 _ 10 (z) _ z0 z1 (by omega) (by omega) zl).mono ?_
          rintro e w'' ⟨⟨y', rfl, y1, y2, y3⟩, rfl⟩
          exact ⟨_, rfl, Ext.refl _, y', rfl, y1, y2, fun h => by have := y3 h; omega⟩
        refine tele_move rfl (.inl rfl) rfl (isV (.slice (some ⟨b, off, none⟩) l.length c)) (fun ρ w' h => h) ?_
        refine tele_move rfl (.inl rfl) rfl (isV (.int .i64 (i : Int))) (fun ρ w' h => h) ?_
        refine tele_val rfl (.pointer (some ⟨b, off + i * 2, none⟩)) (fun _ _ _ => rfl) ?_ ?_
        · rintro ρ w' he ⟨ha, hb', -⟩
          have ea : ρ 17 = .slice (some ⟨b, off, none⟩) l.length c := ha
          have eb : ρ 18 = .int .i64 (i : Int) := hb'
          exact index_at 2 rfl Tryd.underlying47 ea eb (by omega) (by kernel_rfl)
        refine tele_val rfl (.pointer (some ⟨b, off + i * 2, none⟩)) (fun _ _ _ => rfl) ?_ ?_
        · rintro ρ w' he ⟨ha, -⟩
          have ea : ρ 19 = .pointer (some ⟨b, off + i * 2, none⟩) := ha
          simp [execOp, evR, ea, go_sem]
        refine tele_val rfl (strV nm) (fun _ _ _ => rfl) ?_ ?_
        · rintro ρ w' he ⟨ha, -⟩
          have ea : ρ 20 = .pointer (some ⟨b, off + i * 2, none⟩) := ha
          have c0 := ((hx.trans he).cell (p := ⟨b, off + i * 2, none⟩) hb).trans HA.out.1
          simp [execOp, evR, ea, c0, go_sem]
        refine tele_val rfl (.int .i64 ((nm.length : Nat) : Int)) (fun _ _ _ => rfl) ?_ ?_
        · rintro ρ w' he ⟨ha, -⟩
          have ea : ρ 21 = strV nm := ha
          have hsz := strV_size nm
          unfold strV at ea
          simp [execOp, evR, ea, go_sem]
        refine tele_call rfl rfl Tryd.func25 (by kernel_rfl) (isUp2 (z + 10 + ((nm.length : Nat) : Int))) (fun _ _ _ => rfl) ?_ ?_
        · rintro ρ w' he ⟨h16, h22, -⟩
          obtain ⟨y, e16, z0, z1, zl⟩ := (show (isUp2 (z + 10)).rel (ρ 16) w' from h16)
          have e22 : ρ 22 = .int .i64 ((nm.length : Nat) : Int) := h22
          simp only [evR, List.map_toArray, List.map_cons, List.map_nil, e16, e22]
          refine (add_up2 _ ((nm.length : Nat) : Int) (z + 10) _ z0 z1 (by omega) (by omega) zl).mono ?_
          rintro e w'' ⟨⟨y', rfl, y1, y2, y3⟩, rfl⟩
          exact ⟨_, rfl, Ext.refl _, y', rfl, y1, y2, fun h => by have := y3 h; omega⟩
        refine tele_move rfl (.inl rfl) rfl (isV (.slice (some ⟨b, off, none⟩) l.length c)) (fun ρ w' h => h) ?_
        refine tele_move rfl (.inl rfl) rfl (isV (.int .i64 (i : Int))) (fun ρ w' h => h) ?_
        refine tele_val rfl (.pointer (some ⟨b, off + i * 2, none⟩)) (fun _ _ _ => rfl) ?_ ?_
        · rintro ρ w' he ⟨ha, hb', -⟩
          have ea : ρ 24 = .slice (some ⟨b, off, none⟩) l.length c := ha
          have eb : ρ 25 = .int .i64 (i : Int) := hb'
          exact index_at 2 rfl Tryd.underlying47 ea eb (by omega) (by kernel_rfl)
        refine tele_val rfl (.pointer (some ⟨b, off + i * 2 + 1, none⟩)) (fun _ _ _ => rfl) ?_ ?_
        · rintro ρ w' he ⟨ha, -⟩
          have ea : ρ 26 = .pointer (some ⟨b, off + i * 2, none⟩) := ha
          simp [execOp, evR, ea, go_sem]
        refine tele_val rfl (strV tx) (fun _ _ _ => rfl) ?_ ?_
        · rintro ρ w' he ⟨ha, -⟩
          have ea : ρ 27 = .pointer (some ⟨b, off + i * 2 + 1, none⟩) := ha
          have c0 := ((hx.trans he).cell (p := ⟨b, off + i * 2 + 1, none⟩) hb).trans HA.out.2
          simp [execOp, evR, ea, c0, go_sem]
        refine tele_val rfl (.int .i64 ((tx.length : Nat) : Int)) (fun _ _ _ => rfl) ?_ ?_
        · rintro ρ w' he ⟨ha, -⟩
          have ea : ρ 28 = strV tx := ha
          have hsz := strV_size tx
          unfold strV at ea
          simp [execOp, evR, ea, go_sem]
        refine tele_call rfl rfl Tryd.func25 (by kernel_rfl) (isUp2 (z + 10 + ((nm.length : Nat) : Int) + ((tx.length : Nat) : Int))) (fun _ _ _ => rfl) ?_ ?_
        · rintro ρ w' he ⟨h23, h29, -⟩
          obtain ⟨y, e23, z0, z1, zl⟩ := (show (isUp2 (z + 10 + ((nm.length : Nat) : Int))).rel (ρ 23) w' from h23)
          have e29 : ρ 29 = .int .i64 ((tx.length : Nat) : Int) := h29
          simp only [evR, List.map_toArray, List.map_cons, List.map_nil, e23, e29]
          refine (add_up2 _ ((tx.length : Nat) : Int) (z + 10 + ((nm.length : Nat) : Int)) _ z0 z1 (by omega) (by omega) zl).mono ?_
          rintro e w'' ⟨⟨y', rfl, y1, y2, y3⟩, rfl⟩
          exact ⟨_, rfl, Ext.refl _, y', rfl, y1, y2, fun h => by have := y3 h; omega⟩
        refine tele_move rfl (.inr rfl) rfl (isUp2 (z + 10 + ((nm.length : Nat) : Int) + ((tx.length : Nat) : Int))) (fun ρ w' h => h) ?_
        refine tele_nil ?_
        rintro ρ w' hext ⟨f3, -⟩
        obtain ⟨y, f3, q0, q1, q2⟩ := (show (isUp2 (z + 10 + ((nm.length : Nat) : Int) + ((tx.length : Nat) : Int))).rel (ρ 3) w' from f3)
        simp only [puts, Act.put, List.setIfInBounds_toArray, List.set_cons_zero, List.set_cons_succ]
        rw [f3]
        clear f3
        go_wp2_with fail
        go_roundw
        case rel => exact ⟨i + 1, y, by omega, by simp, rfl, q0, q1, (fun h => by
          have h1 := q2 h
          obtain ⟨h2, h3⟩ := HZL.out hz
          refine ⟨by omega, fun j x hj hx' => ?_⟩
          rcases Nat.lt_or_ge j i with h' | h'
          · have := h3 j x h' hx'
            omega
          · obtain rfl : j = i := by omega
            rw [HG.out] at hx'
            injection hx' with hx'
            subst hx'
            dsimp only
            omega), hx.trans hext⟩
        case measure => simp [intOf]; omega
      · go_wp2_with fail
        go_ret
        exact ⟨LightQ.mk _ rfl (fun h => by simp at h), hx⟩
    · go_wp2_with fail
      go_ret
      refine ⟨LightQ.mk _ rfl (fun h => ?_), hx⟩
      have h6 : z ≤ 12000 := by simpa using h
      obtain ⟨b1, b2⟩ := HZL.out h6
      refine ⟨by omega, fun x hx' => ?_⟩
      obtain ⟨j, hj⟩ := List.mem_iff_getElem?.1 hx'
      have := b2 j x (by have := (List.getElem?_eq_some_iff.1 hj).1; omega) hj
      omega
end Go.Proofs.YtacabcpjaadijaaDoor
