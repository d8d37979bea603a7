/-
  The walk of policy.Parse, whole.
-/
import Derived.Test.YtjamopclfpmgjaaPolParseWalk
namespace Go.Proofs.Ytjamopclfpmgjaa
open Go Go.RowKit Mono Num
set_option linter.unusedVariables false
set_option linter.unusedSimpArgs false

theorem PMem.put {n : Nat} {s : PAt} {vl vn vr : Value} {w : World} {o : Obj} (h : PMem n s vl vn vr w) (hi : w.heap[n + 4]? = some o) (ho : o.isCells = false) (o' : Obj) : PMem n s vl vn vr (w.putObj (n + 4) o') := by
  have hg := grownBy_putObj' w (n + 4) o'
  exact ⟨h.bl.kept hg (by simp), ownsRow_putObj h.rl o' hi ho, h.bn.kept hg (by simp), ownsRow_putObj h.rn o' hi ho, h.br.kept hg (by simp), ownsRow_putObj h.rr o' hi ho, h.bb.kept hg (by simp), h.dis, by simpa using h.lim⟩
theorem next_in {P : Program} {w : World} {B pos : Nat} {s : ByteArray} (h : w.heap[B]? = some (.stringIter s pos)) (hp : pos < s.size) (ty : TypeId) :
    (Instr.next (.pointer (some ⟨B, 0, none⟩)) true ty).run P w = .ok (.tuple #[.bool true, .int .i64 pos, .int .i32 (Utf8.decode s pos).1]) (w.putObj B (.stringIter s (pos + (Utf8.decode s pos).2))) := by
  simp only [Instr.next, getObj, setObj, Sem.run_bind, Sem.run, h, Result.andThen, hp, if_true]
  simp [goInt, World.putObj]
theorem next_out {P : Program} {w : World} {B pos : Nat} {s : ByteArray} (h : w.heap[B]? = some (.stringIter s pos)) (hp : ¬ pos < s.size) (ty : TypeId) :
    (Instr.next (.pointer (some ⟨B, 0, none⟩)) true ty).run P w = .ok (.tuple #[.bool false]) w := by
  simp [Instr.next, getObj, Sem.run, h, hp]
/-- What holds of the state, whatever comes. -/
structure POk (st : PAt) (pos : Nat) : Prop where
  c1 : st.l.length + st.nm.length + st.rs.length ≤ pos
  c2 : st.l.length + st.nm.length + st.rs.length ≤ 80
  ls : ∀ g ∈ st.l, g.1.length ≤ 400 ∧ 0 ≤ g.2 ∧ g.2 ≤ 2
theorem polW_range (q : List UInt8) : 0 ≤ polW q ∧ polW q ≤ 2 := by
  unfold polW
  split
  · omega
  · split <;> omega
theorem rb_len (ns : List Int) : (rb ns).length ≤ 4 * ns.length := by
  have := runesBytes_size_le ns
  unfold rb
  rw [Array.length_toList]
  exact this
theorem POk.add {st : PAt} {pos : Nat} (h : POk st pos) (h80 : pos < 80) : POk (padd st) (pos + 1) := by
  have h1 := h.c1
  refine ⟨by simp [padd]; omega, by simp [padd]; omega, fun g hg => ?_⟩
  simp only [padd, List.mem_append, List.mem_singleton] at hg
  rcases hg with hg | rfl
  · exact h.ls g hg
  · have := rb_len st.nm
    have h2 := h.c2
    exact ⟨by dsimp only; omega, polW_range _⟩
theorem POk.step {st : PAt} {pos : Nat} (h : POk st pos) (h80 : pos < 80) (c : Int) : POk (pstep st c) (pos + 1) := by
  have h1 := h.c1
  unfold pstep
  split
  · exact h.add h80
  · split
    · exact ⟨by simp; omega, by simp; omega, h.ls⟩
    · split
      · exact ⟨by simp; omega, by simp; omega, h.ls⟩
      · exact ⟨by simp; omega, by simp; omega, h.ls⟩
theorem POk.mono {st : PAt} {pos pos' : Nat} (h : POk st pos) (hp : pos ≤ pos') : POk st pos' := ⟨Nat.le_trans h.c1 hp, h.c2, h.ls⟩
theorem gs_of_padd {st : PAt} {pos n : Nat} {vl vn vr : Value} {w : World} (h : PMem n (padd st) vl vn vr w) (hk : POk st pos) : Gs w vl (padd st).l := by
  refine gs_of_row h.rl fun g hg => ?_
  simp only [padd, List.mem_append, List.mem_singleton] at hg
  rcases hg with hg | rfl
  · have := hk.ls g hg
    exact ⟨by unfold maxLen; omega, by unfold In64; omega⟩
  · have h1 := rb_len st.nm
    have h2 := hk.c2
    have h3 := polW_range (rb st.rs)
    exact ⟨by unfold maxLen; dsimp only; omega, by unfold In64; dsimp only; omega⟩
/-- Between two runes. -/
structure PLoop (w : World) (s : List UInt8) (st : PAt) (pos : Nat) (wr : World) : Prop where
  mem : ∃ vl vn vr, PMem w.heap.size st vl vn vr wr
  it : wr.heap[w.heap.size + 4]? = some (.stringIter ⟨s.toArray⟩ pos)
  ok : POk st pos
  run : ∃ f, s.length ≤ pos + f ∧ ptoksF s.length ⟨s.toArray⟩ 0 ⟨[], [], [], false⟩ = ptoksF f ⟨s.toArray⟩ pos st
  ext : Ext w wr
theorem PLoop.iterPos {w : World} {s : List UInt8} {st : PAt} {pos : Nat} {wr : World} (h : PLoop w s st pos wr) : wr.iterPos (w.heap.size + 4) = pos := by
  unfold World.iterPos
  rw [h.it]
theorem ptoksF_step {f : Nat} {s : List UInt8} {pos : Nat} {st : PAt} (hp : pos < s.length) (hf : s.length ≤ pos + f) :
    ∃ g, f = g + 1 ∧ ptoksF f ⟨s.toArray⟩ pos st = ptoksF g ⟨s.toArray⟩ (pos + (Utf8.decode ⟨s.toArray⟩ pos).2) (pstep st (Utf8.decode ⟨s.toArray⟩ pos).1) := by
  obtain ⟨g, rfl⟩ : ∃ g, f = g + 1 := ⟨f - 1, by omega⟩
  refine ⟨g, rfl, ?_⟩
  rw [ptoksF, if_pos (by rw [strV_size]; exact hp)]
theorem ptoksF_end {f : Nat} {s : List UInt8} {pos : Nat} {st : PAt} (hp : ¬ pos < s.length) : ptoksF f ⟨s.toArray⟩ pos st = st := by
  cases f with
  | zero => rfl
  | succ f => rw [ptoksF, if_neg (by rw [strV_size]; exact hp)]
/-- The next rune has come; what the round makes of it. -/
theorem PLoop.next {w : World} {s : List UInt8} {st : PAt} {pos : Nat} {wr w2 : World} (h : PLoop w s st pos wr) (hp : pos < s.length) (h80 : s.length ≤ 80)
    (hm : ∃ vl vn vr, PMem w.heap.size (pstep st (Utf8.decode ⟨s.toArray⟩ pos).1) vl vn vr w2) (hit : w2.heap[w.heap.size + 4]? = some (.stringIter ⟨s.toArray⟩ (pos + (Utf8.decode ⟨s.toArray⟩ pos).2)))
    (hx : Below w.heap.size wr w2) : PLoop w s (pstep st (Utf8.decode ⟨s.toArray⟩ pos).1) (pos + (Utf8.decode ⟨s.toArray⟩ pos).2) w2 := by
  have hw := width_pos ⟨s.toArray⟩ pos (by rw [strV_size]; exact hp)
  obtain ⟨f, hf1, hf2⟩ := h.run
  obtain ⟨g, rfl, hg⟩ := ptoksF_step (st := st) hp hf1
  exact ⟨hm, hit, (h.ok.step (by omega) _).mono (by omega), ⟨g, by omega, by rw [hf2, hg]⟩, Below.trans h.ext hx⟩

set_option maxHeartbeats 4000000 in
theorem polParse_any (s : List UInt8) (w : World) (hm : s.length ≤ maxLen) :
    Calls Try.prog 11 #[strV s] w fun e w' => ∃ r, e = .returned (.tuple #[r, .int .i64 ((pparse s).2 : Int)]) ∧ Gs w' r (pparse s).1 ∧ Ext w w' := by
  unfold strV
  obtain ⟨i0, hi0, hz0, hz1, hz2⟩ := info_parts infoRune
  unfold maxLen at hm
  have hsz := strV_size s
  by_cases h80 : 80 < s.length
  · have HP := Lib.hid (show pparse s = ([], 11) by unfold pparse; rw [if_pos h80])
    go_enter Try.func11, Try.ntmps11
    go_wp2_with fail
    go_ret2
    exact ⟨_, by rw [HP.out]; rfl, by rw [HP.out]; exact Gs.nil_ _, Ext.refl _⟩
  · have hmf : ∀ (fn : Fn) (first cap : Array Value) (w : World), (Instr.makeFunc fn first cap).run Try.prog w = .ok (.func fn first cap) w := fun _ _ _ _ => rfl
    go_enter Try.func11, Try.ntmps11
    go_wp2_with fail
    obtain ⟨W0, hW0⟩ : ∃ W0, ((((w.alloc (.cells #[.slice none 0 0] 22)).alloc (.cells #[.slice none 0 0] 58)).alloc (.cells #[.slice none 0 0] 58)).alloc (.cells #[.bool false] 4)).iter ⟨s.toArray⟩ 0 = W0 := ⟨_, rfl⟩
    have hL : PLoop w s ⟨[], [], [], false⟩ 0 W0 := by
      subst hW0
      unfold World.iter
      refine ⟨⟨.slice none 0 0, .slice none 0 0, .slice none 0 0, ?_, World.ownsRow_nil _ _ _ _, ?_, World.ownsRow_nil _ _ _ _, ?_, World.ownsRow_nil _ _ _ _, ?_, .inl rfl, by simp⟩, ?_, ⟨by simp, by simp, by simp⟩, ⟨s.length, by omega, rfl⟩, ?_⟩
      · exact ((((Boxed.new w _ _).alloc _).alloc _).alloc _).alloc _
      · have := (((Boxed.new (w.alloc (.cells #[.slice none 0 0] 22)) 58 (.slice none 0 0)).alloc (.cells #[.slice none 0 0] 58)).alloc (.cells #[.bool false] 4)).alloc (.stringIter ⟨s.toArray⟩ 0)
        simpa using this
      · have := ((Boxed.new ((w.alloc (.cells #[.slice none 0 0] 22)).alloc (.cells #[.slice none 0 0] 58)) 58 (.slice none 0 0)).alloc (.cells #[.bool false] 4)).alloc (.stringIter ⟨s.toArray⟩ 0)
        simpa using this
      · have := (Boxed.new (((w.alloc (.cells #[.slice none 0 0] 22)).alloc (.cells #[.slice none 0 0] 58)).alloc (.cells #[.slice none 0 0] 58)) 4 (.bool false)).alloc (.stringIter ⟨s.toArray⟩ 0)
        simpa using this
      · have := World.alloc_heap_new ((((w.alloc (.cells #[.slice none 0 0] 22)).alloc (.cells #[.slice none 0 0] 58)).alloc (.cells #[.slice none 0 0] 58)).alloc (.cells #[.bool false] 4)) (.stringIter ⟨s.toArray⟩ 0)
        simpa using this
      · exact Ext.trans (Ext.trans (Ext.trans (Ext.trans (ext_alloc _ _) (ext_alloc _ _)) (ext_alloc _ _)) (ext_alloc _ _)) (ext_alloc _ _)
    rw [hW0]
    clear hW0
    go_loopw [10] (fun _ wr => ∃ st pos, PLoop w s st pos wr) (fun _ wr => s.length - wr.iterPos (w.heap.size + 4))
    case atStart => exact ⟨_, _, hL⟩
    case round =>
      obtain ⟨st, pos, hL⟩ := hrel
      have HLL := Lib.hid hL
      obtain ⟨vl, vn, vr, hPM⟩ := hL.mem
      have hit := hL.it
      have hok := hL.ok
      have hxx := hL.ext
      have hip := hL.iterPos
      have HIP := Lib.hid hip
      clear hip
      by_cases hp : pos < s.length
      · have hnx := fun ty => next_in (P := Try.prog) hit (by rw [hsz]; exact hp) ty
        have hlim := hPM.lim
        have HP2 := Lib.hid (hPM.put hit rfl (.stringIter ⟨s.toArray⟩ (pos + (Utf8.decode ⟨s.toArray⟩ pos).2)))
        have HI2 := Lib.hid (World.putObj_heap_same (w := wr) (r := w.heap.size + 4) (o := .stringIter ⟨s.toArray⟩ (pos + (Utf8.decode ⟨s.toArray⟩ pos).2)) (by omega))
        have HB2 := Lib.hid (Below.grown (Below.refl w.heap.size wr) (grownBy_putObj' wr (w.heap.size + 4) (.stringIter ⟨s.toArray⟩ (pos + (Utf8.decode ⟨s.toArray⟩ pos).2))) (by omega) (fun j hj => by cases hj; omega))
        have HNX := Lib.hid (fun (w2 : World) => HLL.out.next (w2 := w2) hp (by omega))
        have HWD := Lib.hid (width_pos ⟨s.toArray⟩ pos (by rw [hsz]; exact hp))
        have hr32 := decode_le ⟨s.toArray⟩ pos
        clear hL hPM hit HLL
        generalize Utf8.decode ⟨s.toArray⟩ pos = d at *
        obtain ⟨r, k⟩ := d
        dsimp only at *
        generalize hw2 : wr.putObj (w.heap.size + 4) (.stringIter ⟨s.toArray⟩ (pos + k)) = w2 at *
        clear hw2
        have hcnt := hok.c2
        have cn := HP2.out.bn.cell
        have cr := HP2.out.br.cell
        have cb := HP2.out.bb.cell
        have fb := HP2.out.bb.frozen
        by_cases h44 : r = 44
        · subst h44
          go_wp2_with fail
          refine (add_any _ st vl vn vr w2 HP2.out (by omega) (by omega)).mono ?_
          rintro e w3 ⟨⟨q, rfl⟩, ⟨vl', k2⟩, k3, k4⟩
          have HE := HNX.out _ (by rw [show pstep st ((44 : Nat) : Int) = padd st by unfold pstep; rw [if_pos (show ((44 : Nat) : Int) = 44 from rfl)]]; exact ⟨_, _, _, k2⟩) (k4.trans HI2.out) (Below.trans HB2.out k3)
          clear k2 k4
          go_wp2_with fail
          go_roundw
          case rel => exact ⟨_, _, HE⟩
          case measure =>
            have e2 := HE.iterPos
            rw [HIP.out, e2]
            have := HWD.out
            omega
        · have b44 : ((r : Int) == 44) = false := by rw [beq_eq_false_iff_ne]; omega
          cases hbh : st.bh
          · rw [hbh] at cb
            by_cases h61 : r = 61
            · subst h61
              have K := HP2.out.sign true
              have HE := HNX.out _ (by rw [show pstep st ((61 : Nat) : Int) = { st with bh := true } by unfold pstep; rw [if_neg (by decide), if_neg (by simp [hbh]), if_pos (show ((61 : Nat) : Int) = 61 from rfl)]]; exact ⟨_, _, _, K.1⟩) (K.2.2.trans HI2.out) (Below.trans HB2.out K.2.1)
              clear K hbh
              go_wp2_with fail
              go_roundw
              case rel => exact ⟨_, _, HE⟩
              case measure =>
                have e2 := HE.iterPos
                rw [HIP.out, e2]
                have := HWD.out
                omega
            · have b61 : ((r : Int) == 61) = false := by rw [beq_eq_false_iff_ne]; omega
              have HS := Lib.hid (show pstep st (r : Int) = { st with nm := st.nm ++ [(r : Int)] } by unfold pstep; rw [if_neg (by omega), if_neg (by simp [hbh]), if_neg (by omega)])
              clear hbh h44 h61
              go_wp2_with (at_builtin; refine wpList_append_own_at _ rfl (.tmp 20) (.tmp 22) 58 rfl (w.heap.size + 5) 21 i0 (.int .i32 0) 1 4 Try.underlying58 hi0 hz0 hz1 hz2 rfl (by decide) _ _ _ rfl (HP2.out.rn.alloc _) ⟨w2.heap.size, 0, none⟩ 1 1 [rv (r : Int)] rfl rfl (cell_one_new _ _ _) (by simp [Value.oneCell', rv]) (by unfold maxLen; omega) (by omega) (by have := HP2.out.lim; simp; omega) ?_; intro v' w3 hown' hgrow _ hat; obtain ⟨g', cap', rfl⟩ := ownsRow_succ hown'; obtain ⟨k1, k2, k3, k4⟩ := HP2.out.name (c := (r : Int)) hown' rfl rfl hgrow hat; have d1 := k1.cell; have d2 := k1.frozen; have K2 := Lib.hid k2; clear k2 hown' hgrow hat)
              have HE := HNX.out _ (by rw [HS.out]; exact ⟨_, _, _, K2.out⟩) (k4.trans HI2.out) (Below.trans HB2.out k3)
              go_roundw
              case rel => exact ⟨_, _, HE⟩
              case measure =>
                have e2 := HE.iterPos
                rw [HIP.out, e2]
                have := HWD.out
                omega
          · rw [hbh] at cb
            have HS := Lib.hid (show pstep st (r : Int) = { st with rs := st.rs ++ [(r : Int)] } by unfold pstep; rw [if_neg (by omega), if_pos hbh])
            clear hbh h44
            go_wp2_with (at_builtin; refine wpList_append_own_at _ rfl (.tmp 31) (.tmp 33) 58 rfl (w.heap.size + 5) 21 i0 (.int .i32 0) 1 4 Try.underlying58 hi0 hz0 hz1 hz2 rfl (by decide) _ _ _ rfl (HP2.out.rr.alloc _) ⟨w2.heap.size, 0, none⟩ 1 1 [rv (r : Int)] rfl rfl (cell_one_new _ _ _) (by simp [Value.oneCell', rv]) (by unfold maxLen; omega) (by omega) (by have := HP2.out.lim; simp; omega) ?_; intro v' w3 hown' hgrow _ hat; obtain ⟨g', cap', rfl⟩ := ownsRow_succ hown'; obtain ⟨k1, k2, k3, k4⟩ := HP2.out.word (c := (r : Int)) hown' rfl rfl hgrow hat; have d1 := k1.cell; have d2 := k1.frozen; have K2 := Lib.hid k2; clear k2 hown' hgrow hat)
            have HE := HNX.out _ (by rw [HS.out]; exact ⟨_, _, _, K2.out⟩) (k4.trans HI2.out) (Below.trans HB2.out k3)
            go_roundw
            case rel => exact ⟨_, _, HE⟩
            case measure =>
              have e2 := HE.iterPos
              rw [HIP.out, e2]
              have := HWD.out
              omega
      · have hnx := fun ty => next_out (P := Try.prog) hit (by rw [hsz]; exact hp) ty
        have hcnt := hok.c2
        obtain ⟨f, _, hf⟩ := hL.run
        rw [ptoksF_end hp] at hf
        have HF := Lib.hid (show ptoks s = (padd st).l by unfold ptoks; rw [hf])
        have HP2 := Lib.hid hPM
        clear hL hPM hit HLL hf
        go_wp2_with fail
        refine (add_any _ st vl vn vr wr HP2.out (by omega) (by omega)).mono ?_
        rintro e w3 ⟨⟨q, rfl⟩, ⟨vl', k2⟩, k3, k4⟩
        have cl := k2.bl.cell
        have hgs := gs_of_padd k2 hok
        rw [← HF.out] at hgs
        have hx3 : Ext w w3 := Below.trans hxx k3
        have HG := Lib.hid (polGood_any vl' (ptoks s) w3 hgs)
        have K2 := Lib.hid k2
        clear k2 k3 k4
        obtain ⟨A', c', rfl, _, _, _, _⟩ := hgs.at_
        obtain ⟨e, hpe⟩ : ∃ e, pgood (ptoks s) = e := ⟨_, rfl⟩
        rw [hpe] at HG
        by_cases he0 : e = 0
        · subst he0
          have HR := Lib.hid (show pparse s = (ptoks s, 0) by unfold pparse; rw [if_neg h80, if_neg (by simp [hpe])])
          clear hpe
          go_wp2_with fail
          refine HG.out.mono ?_
          rintro e w4 ⟨rfl, x4⟩
          have cl4 := (K2.out.bl.kept (W' := w4) (row := none) ⟨x4.os, x4.tape, x4.output, x4.size, fun k hk _ => x4.block k hk⟩ (by simp)).cell
          go_wp2_with fail
          go_ret2
          exact ⟨_, by rw [HR.out]; rfl, by rw [HR.out]; exact hgs.ext x4, Ext.trans hx3 x4⟩
        · have HR := Lib.hid (show pparse s = ([], 11) by unfold pparse; rw [if_neg h80, if_pos (by rw [hpe]; exact he0)])
          have he1 : ((e : Int) != 0) = true := by rw [bne_iff_ne]; omega
          clear hpe he0
          go_wp2_with fail
          refine HG.out.mono ?_
          rintro e w4 ⟨rfl, x4⟩
          go_wp2_with fail
          go_ret2
          exact ⟨_, by rw [HR.out]; rfl, by rw [HR.out]; exact Gs.nil_ _, Ext.trans hx3 x4⟩
end Go.Proofs.Ytjamopclfpmgjaa
