/-
  Layer 16: a log is opened.
-/
import Derived.Test.YtagghghoimpofaaDoorWalRead
namespace Go.Proofs.YtagghghoimpofaaDoor
open Go Go.RowKit Mono
set_option linter.unusedVariables false
set_option linter.unusedSimpArgs false
set_option maxRecDepth 100000
set_option maxHeartbeats 4000000

theorem BssF.ofT {w : World} {z : Nat} {v : Value} {ls : List (List UInt8)} {fp : Nat → Prop} (h : BssO w z v ls) (hf : ∀ k (C : Array Value) (T : TypeId) fz, fp k → z ≤ k → w.heap[k]? = some (.cells C T fz) → T ≠ 28 ∧ T ≠ 5) : BssF w z v ls fp := by
  obtain ⟨vs, h1, h2⟩ := h
  refine ⟨vs, h1, h2, fun j hj hq => ?_, fun u hu j hj hq => ?_⟩
  · obtain ⟨cur, hb⟩ := row_type h1 hj
    exact (hf j _ _ _ hq (World.ownsRow.lt h1 j hj).1 hb).1 rfl
  · obtain ⟨y, hy⟩ := h2.mem_left u hu
    obtain ⟨cur, fz, hb⟩ := hy.type hj
    exact (hf j _ _ _ hq (World.ownsRow.lt hy j hj).1 hb).2 rfl
theorem BssF.low {w : World} {z z' : Nat} {v : Value} {ls : List (List UInt8)} {fp : Nat → Prop} (h : BssF w z v ls fp) (hz : z' ≤ z) : BssF w z' v ls fp := by
  obtain ⟨vs, h1, h2, h3, h4⟩ := h
  exact ⟨vs, row_down h1 hz, h2.mono fun _ _ hy => OwB.mono hy hz, h3, h4⟩
/-- What Open tells. -/
def OpenQ (W0 W : World) (bd bm pl : Nat) (d : Dk) (ms : List FilM) (size : Int) (e : Ending) (w' : World) : Prop := ∃ pl' ms', match (wOpen d size).l with
  | none => e = .returned (.tuple #[.pointer none, .slice none 0 0, .int .i64 ((wOpen d size).e : Int)]) ∧ DkS W0.heap.size W w' bd bm pl d ms pl' (wOpen d size).d ms'
  | some l => ∃ bl va v, e = .returned (.tuple #[.pointer (some ⟨bl, 0, none⟩), va, .int .i64 0]) ∧ Cx W0 w' bd bl bm pl' (wOpen d size).d ms' v l ∧ Cont (dall bd bm pl d ms) W (cfp bd bl bm pl' (wOpen d size).d ms' v) w' ∧ BssF w' W.heap.size va (wOpen d size).r (cfp bd bl bm pl' (wOpen d size).d ms' v)
theorem OpenQ.bad {W0 W : World} {bd bm pl pl' : Nat} {d : Dk} {ms ms' : List FilM} {size : Int} {e : Ending} {w' : World} {d' : Dk} {n : Nat} (h : wOpen d size = ⟨d', none, [], n⟩) (he : e = .returned (.tuple #[.pointer none, .slice none 0 0, .int .i64 (n : Int)])) (hs : DkS W0.heap.size W w' bd bm pl d ms pl' d' ms') : OpenQ W0 W bd bm pl d ms size e w' := by
  refine ⟨pl', ms', ?_⟩
  rw [h]
  exact ⟨he, hs⟩
theorem OpenQ.good {W0 W : World} {bd bl bm pl pl' : Nat} {d : Dk} {ms ms' : List FilM} {size : Int} {e : Ending} {w' : World} {d' : Dk} {l : Lg} {r : List (List UInt8)} {va v : Value} (h : wOpen d size = ⟨d', some l, r, 0⟩) (he : e = .returned (.tuple #[.pointer (some ⟨bl, 0, none⟩), va, .int .i64 0])) (hc : Cx W0 w' bd bl bm pl' d' ms' v l) (hk : Cont (dall bd bm pl d ms) W (cfp bd bl bm pl' d' ms' v) w') (hb : BssF w' W.heap.size va r (cfp bd bl bm pl' d' ms' v)) : OpenQ W0 W bd bm pl d ms size e w' := by
  refine ⟨pl', ms', ?_⟩
  rw [h]
  exact ⟨bl, va, v, he, hc, hk, hb⟩
theorem read_empty {d : Dk} (hok : d.Ok) (hon : d.on = true) : (dRead d []).2 = 152 := by
  have hn : findF [] d.fs = none := by
    unfold findF
    rw [List.find?_eq_none]
    intro f hf
    have := hok.names f hf
    unfold dname at this
    simp at this
    simp
    rintro e
    rw [e] at this
    simp at this
  unfold dRead
  rw [hon, hn]
  rfl
theorem read_off {d : Dk} (hon : d.on = false) : (dRead d []).2 = 150 := by unfold dRead; rw [hon]; rfl
/-- Open's log, before it is read. -/
theorem log_new {W0 w : World} {bd bm pl : Nat} {d : Dk} {ms : List FilM} (hd : DkM W0.heap.size w bd bm pl d ms) (hx : Ext W0 w) (hT : TbW W0) (size : Nat) :
    Cx W0 (w.alloc (.cells #[.slice none 0 0, .pointer (some ⟨bd, 0, none⟩), .int .i64 (size : Int), .int .i64 0, .int .i64 (d.fails : Int)] 63)) bd w.heap.size bm pl d ms (.slice none 0 0) ⟨[], size, 0, d.fails⟩ :=
  ⟨hd.ext (ext_alloc _ _), ⟨BlkT.new w #[.slice none 0 0, .pointer (some ⟨bd, 0, none⟩), .int .i64 (size : Int), .int .i64 0, .int .i64 (d.fails : Int)] 63, World.ownsRow_nil _ _ _ _, hx.size⟩, hx.trans (ext_alloc _ _), hT⟩
theorem Cx.dks {W0 W w : World} {bd bl bm pl pl' : Nat} {d d' : Dk} {ms ms' : List FilM} {v : Value} {l : Lg} (h : Cx W0 W bd bl bm pl d ms v l) (hs : DkS W0.heap.size W w bd bm pl d ms pl' d' ms') : Cx W0 w bd bl bm pl' d' ms' v l ∧ Cont (cfp bd bl bm pl d ms v) W (cfp bd bl bm pl' d' ms' v) w :=
  h.disk (hs.kb.mono fun b hb => .inl hb) hs.dk hs.fp
/-- A log that is let go again. -/
theorem Cont.dks {W0 W w : World} {bd bl bm pl pl' : Nat} {d d' : Dk} {ms ms' : List FilM} {v : Value} {l : Lg} (hc : Cx W0 w bd bl bm pl' d' ms' v l) (hk : Cont (dall bd bm pl d ms) W (cfp bd bl bm pl' d' ms' v) w) : DkS W0.heap.size W w bd bm pl d ms pl' d' ms' :=
  ⟨hc.hd, hk.kb, fun k hk2 => hk.sub k (.inl hk2)⟩
/-- The number of the last record that is sure is set. -/
theorem Cx.sure {W0 w : World} {bd bl bm pl : Nat} {d : Dk} {ms : List FilM} {v : Value} {l : Lg} (h : Cx W0 w bd bl bm pl d ms v l) (n : Nat) :
    Cx W0 (w.setCell ⟨bl, 3, none⟩ (.int .i64 (n : Int))) bd bl bm pl d ms v { l with sure := n } ∧ Cont (cfp bd bl bm pl d ms v) w (cfp bd bl bm pl d ms v) (w.setCell ⟨bl, 3, none⟩ (.int .i64 (n : Int))) :=
  h.put (h.hl.put (l' := { l with sure := n }) 3 (.int .i64 (n : Int)) rfl rfl) (Kb.set _ w bl 3 _ (.inl rfl)) (fun _ h => .inl h)
theorem wReadA_ne {d : Dk} : ∀ (nums : List Nat) (ss : List WSeg) (a : List (List UInt8)) (ss' : List WSeg) (a' : List (List UInt8)) (t : Bool), wReadA d ss a nums = some (ss', a', t) → (nums = [] ∧ ss' = ss ∧ a' = a ∧ t = false) ∨ ∃ m, ss'.getLastD ⟨1, 0, 0⟩ = wseg d m ∧ ss' ≠ [] ∧ m ∈ nums
  | [], ss, a, ss', a', t, h => by
    unfold wReadA at h
    injection h with h
    injection h with h1 h
    injection h with h2 h3
    exact .inl ⟨rfl, h1.symm, h2.symm, h3.symm⟩
  | [n], ss, a, ss', a', t, h => by
    unfold wReadA at h
    injection h with h
    injection h with h1 h
    subst h1
    exact .inr ⟨n, by rw [List.getLastD_concat], by simp, List.mem_singleton_self n⟩
  | n :: m :: r, ss, a, ss', a', t, h => by
    rw [wReadA] at h
    split at h
    · cases h
    · rcases wReadA_ne (m :: r) _ _ ss' a' t h with ⟨h1, _⟩ | ⟨q, h1, h2, h3⟩
      · cases h1
      · exact .inr ⟨q, h1, h2, List.mem_cons_of_mem _ h3⟩
theorem wread_last {d : Dk} (hok : d.Ok) {ss : List WSeg} {a : List (List UInt8)} {t : Bool} (h : wReadA d [] [] (wnums d) = some (ss, a, t)) (hne : ss ≠ []) : (ss.getLastD ⟨1, 0, 0⟩).frm ≤ 999999999999 ∧ 1 ≤ (ss.getLastD ⟨1, 0, 0⟩).frm ∧ (ss.getLastD ⟨1, 0, 0⟩).count ≤ 1048576 ∧ (ss.getLastD ⟨1, 0, 0⟩).bytes ≤ 1048576 := by
  rcases wReadA_ne _ _ _ _ _ _ h with ⟨_, h1, _⟩ | ⟨m, h1, _, hm⟩
  · exact absurd h1 hne
  · have := wrows_len hok m
    unfold wnums at hm
    obtain ⟨hm1, hm2⟩ := List.mem_filter.1 hm
    obtain ⟨f, -, rfl⟩ := List.mem_map.1 hm1
    rw [h1]
    exact ⟨wnum_lt _, (by simpa using hm2 : 0 < wnum f.name), this.1, this.2.1⟩
theorem wopen_any {W0 W : World} {bd bm pl c0 : Nat} {d : Dk} {ms : List FilM} (hd : DkM W0.heap.size W bd bm pl d ms) (hx : Ext W0 W) (hT : TbW W0) (hok : d.Ok) (hsc : d.SmallC c0) (hc0 : c0 + 10 ≤ 1000000000) (size : Int) :
    Calls Tryd.prog 19 #[.pointer (some ⟨bd, 0, none⟩), .int .i64 size] W (OpenQ W0 W bd bm pl d ms size) := by
  have HRD := Lib.hid (read_any hd hok [] (by decide))
  have HU := Lib.hid (show wOpen d size = if d.on = false then ⟨d, none, [], 150⟩ else if size < 1 ∨ 1048576 < size then ⟨d, none, [], 2⟩ else match wReadA d [] [] (wnums d) with
    | none => ⟨d, none, [], 160⟩
    | some (ss, a, torn) =>
      if ss = [] then (if (dMake d (wname 1)).2 ≠ 0 then ⟨(dMake d (wname 1)).1, none, [], (dMake d (wname 1)).2⟩ else wOpened (dMake d (wname 1)).1 [⟨1, 0, 0⟩] a size.toNat d.fails)
      else if (wMend d (ss.getLastD ⟨1, 0, 0⟩) torn).2 ≠ 0 then ⟨(wMend d (ss.getLastD ⟨1, 0, 0⟩) torn).1, none, [], (wMend d (ss.getLastD ⟨1, 0, 0⟩) torn).2⟩
      else wOpened (wMend d (ss.getLastD ⟨1, 0, 0⟩) torn).1 ss a size.toNat d.fails from rfl)
  have HD := Lib.hid hd
  have HX := Lib.hid hx
  have HT := Lib.hid hT
  have HOK := Lib.hid hok
  have HSC := Lib.hid hsc
  have HC0 := Lib.hid hc0
  have hpe : (strV []) = .string ⟨#[]⟩ := rfl
  rw [hpe] at HRD
  clear hd hx hT hsc hc0 hpe
  cases hon : d.on
  · rw [read_off hon] at HRD
    rw [if_pos hon] at HU
    go_enter Tryd.func19, Tryd.ntmps19
    go_wp2_with fail
    refine HRD.out.mono ?_
    rintro e w1 ⟨v1, rfl, -, hx1⟩
    go_wp2_with fail
    go_ret3
    exact OpenQ.bad HU.out rfl (DkS.ext HD.out hx1)
  rw [read_empty hok hon] at HRD
  rw [if_neg (by simp [hon])] at HU
  by_cases hs1 : size < 1
  · rw [if_pos (.inl hs1)] at HU
    clear hok
    go_enter Tryd.func19, Tryd.ntmps19
    go_wp2_with fail
    refine HRD.out.mono ?_
    rintro e w1 ⟨v1, rfl, -, hx1⟩
    go_wp2_with fail
    go_ret3
    exact OpenQ.bad HU.out rfl (DkS.ext HD.out hx1)
  by_cases hs2 : 1048576 < size
  · rw [if_pos (.inr hs2)] at HU
    clear hok
    go_enter Tryd.func19, Tryd.ntmps19
    go_wp2_with fail
    refine HRD.out.mono ?_
    rintro e w1 ⟨v1, rfl, -, hx1⟩
    go_wp2_with fail
    go_ret3
    exact OpenQ.bad HU.out rfl (DkS.ext HD.out hx1)
  rw [if_neg (by omega)] at HU
  obtain ⟨sz, rfl⟩ : ∃ sz : Nat, size = (sz : Int) := ⟨size.toNat, by omega⟩
  rw [Int.toNat_natCast] at HU
  clear hok
  go_enter Tryd.func19, Tryd.ntmps19
  go_wp2_with fail
  refine HRD.out.mono ?_
  rintro e w1 ⟨v1, rfl, -, hx1⟩
  have HX1 := Lib.hid hx1
  have HFS := Lib.hid (fails_any (HD.out.ext hx1))
  clear hx1 HRD
  go_wp2_with fail
  refine HFS.out.mono ?_
  rintro e w2 ⟨rfl, rfl⟩
  clear HFS hs1 hs2
  have HLN := Lib.hid (log_new (HD.out.ext HX1.out) (HX.out.trans HX1.out) HT.out sz)
  have HX2 := Lib.hid (HX1.out.trans (ext_alloc _ (.cells #[.slice none 0 0, .pointer (some ⟨bd, 0, none⟩), .int .i64 (sz : Int), .int .i64 0, .int .i64 (d.fails : Int)] 63)))
  have HRE := Lib.hid (wread_any HLN.out HOK.out)
  obtain ⟨bl, hbl⟩ : ∃ bl, bl = w2.heap.size := ⟨_, rfl⟩
  have HBLW := Lib.hid (show W.heap.size ≤ bl by rw [hbl]; exact HX1.out.size)
  have HDLT := Lib.hid (show ∀ k, dall bd bm pl d ms k → k < bl by intro k hk; have := HD.out.lt k hk; have := HBLW.out; omega)
  rw [← hbl] at HRE HLN
  go_wp2_with fail
  rw [← hbl]
  refine HRE.out.mono ?_
  intro e w3 hq
  unfold ReadQ at hq
  clear HRE hbl
  cases hw : wReadA d [] [] (wnums d) with
  | none =>
    rw [hw] at hq HU
    obtain ⟨rfl, hkb⟩ := hq
    have hdk : DkM W0.heap.size w3 bd bm pl d ms := HLN.out.hd.kb hkb (fun j hj e => by have := HDLT.out j (.inl hj); omega) (fun m hm j hj e => by have := HDLT.out j (.inr ⟨m, hm, hj⟩); omega)
    have HDS := Lib.hid (show DkS W0.heap.size W w3 bd bm pl d ms pl d ms from ⟨hdk, Kb.of_ext (hkb.ext HX2.out (fun b hb => by rw [hb]; exact HBLW.out)), fun _ h => .inl h⟩)
    clear hkb hdk hw
    go_wp2_with fail
    go_ret3
    exact OpenQ.bad HU.out rfl HDS.out
  | some p =>
    obtain ⟨ss, a, torn⟩ := p
    rw [hw] at hq HU
    dsimp only at hq HU
    obtain ⟨va, v, rfl, hj⟩ := hq
    have HLAST := Lib.hid (wread_last HOK.out hw)
    have HC := Lib.hid hj.cx
    have HK := Lib.hid (show Cont (dall bd bm pl d ms) W (cfp bd bl bm pl d ms v) w3 from ⟨Kb.of_ext (hj.kb.ext HX2.out (fun b hb => by rw [hb]; exact HBLW.out)), fun k hk => by
      rcases hk with hk | rfl | hk
      · exact .inl hk
      · exact .inr HBLW.out
      · exact .inr (Nat.le_trans HX2.out.size (hj.vnew k hk))⟩)
    have HB := Lib.hid (show BssF w3 W.heap.size va a (cfp bd bl bm pl d ms v) from (BssF.ofT hj.acc (fun k C T fz hk hz hb => by
      rcases hk with hk | hk
      · have := HDLT.out k hk
        have := HLN.out.hl.str.lt
        omega
      · rcases hj.cx.hl.ltype k C T fz hk hb with rfl | rfl <;> exact ⟨by decide, by decide⟩)).low HX2.out.size)
    clear hj hw HLN HX2 HDLT HBLW
    by_cases hse : ss = []
    · subst hse
      rw [if_pos rfl] at HU
      obtain ⟨A3, c3, rfl⟩ : ∃ A c, v = .slice A 0 c := by
        rcases HC.out.hl.row.2 with ⟨h1, _⟩ | ⟨g, cap, cur, h1, _⟩
        · exact ⟨none, 0, h1⟩
        · exact ⟨_, cap, h1⟩
      have hxa := ext_alloc w3 (.cells #[.int .i64 1, .int .i64 0, .int .i64 0] 87)
      have hca := HC.out.ext hxa
      have k0 := HC.out.hl.str.blk.cell (i := 0) rfl
      have k0a := hca.hl.str.blk.cell (i := 0) rfl
      have t0a := hca.hl.str.blk.thaw 0
      have hrw := World.ownsRow_lit (size := 3) (e := 87) w3 #[.int .i64 1, .int .i64 0, .int .i64 0] 1 (HC.out.hx.size) (by decide) rfl
      have hsw := LgM.swap (l' := ⟨[⟨1, 0, 0⟩], sz, 0, d.fails⟩) hca.hl.str hca.hl.zl hrw ⟨rfl, rfl, rfl⟩
      obtain ⟨hcb, hkb⟩ := HC.out.put hsw ((Kb.of_ext (fp := lall bl (.slice A3 0 c3)) hxa).trans (Kb.set (lall bl (.slice A3 0 c3)) _ bl 0 _ (.inl rfl)) (fun _ h => .inl h)) (fun j hj => hj.elim (fun h => .inl (.inl h)) (fun h => .inr (by
        have h1 : some w3.heap.size = some j := h
        injection h1 with h1
        omega)))
      have HSNE := Lib.hid (show ([⟨1, 0, 0⟩] : List WSeg) ≠ [] by simp)
      have HNB := Lib.hid (show (⟨[⟨1, 0, 0⟩], sz, 0, d.fails⟩ : Lg).next ≤ 9000000000000000000 by show 1 + 0 ≤ _; decide)
      have HN1 := Lib.hid (show 1 ≤ (⟨[⟨1, 0, 0⟩], sz, 0, d.fails⟩ : Lg).next by show 1 ≤ 1 + 0; decide)
      replace HB := Lib.hid (HB.out.step hkb)
      replace HK := Lib.hid (HK.out.trans hkb)
      replace HC := Lib.hid hcb
      clear hxa hca hrw hsw hcb hkb
      have HNA := Lib.hid (wName_any 1 _ (HT.out.ext HC.out.hx))
      go_wp2_with fail
      refine HNA.out.mono ?_
      rintro e w6 ⟨rfl, hx6⟩
      clear k0 k0a t0a
      replace HC := Lib.hid (HC.out.ext hx6)
      replace HK := Lib.hid (HK.out.ext hx6)
      replace HB := Lib.hid (HB.out.kb (Kb.of_ext hx6))
      clear hx6
      have HMK := Lib.hid (make_any HC.out.hd HOK.out (HSC.out.small (by have := HC0.out; omega)) HC.out.hx.size (wname 1) (Nat.le_trans (wname_len _) (by decide)))
      go_wp2_with fail
      refine (HMK.out).mono ?_
      rintro e w7 ⟨pl2, ms2, rfl, hs7⟩
      obtain ⟨hc7, hk7⟩ := HC.out.dks hs7
      replace HB := Lib.hid (HB.out.step hk7)
      replace HK := Lib.hid (HK.out.trans hk7)
      replace HC := Lib.hid hc7
      clear hs7 hc7 hk7
      generalize dMake d (wname 1) = x at *
      by_cases hx0 : x.2 = 0
      rotate_left
      · have hx1 : ¬ (x.2 : Int) = 0 := by omega
        rw [if_pos hx0] at HU
        clear hx0
        go_wp2_with fail
        go_ret3
        exact OpenQ.bad HU.out rfl (Cont.dks HC.out HK.out)
      rw [if_neg (by omega)] at HU
      rw [hx0]
      have hlne : (⟨[⟨1, 0, 0⟩], sz, 0, d.fails⟩ : Lg).segs ≠ [] := HSNE.out
      have HKN := Lib.hid (wnext_any HC.out.hl hlne HNB.out)
      have HNB2 := Lib.hid HNB.out
      obtain ⟨q, hq⟩ : ∃ q, q = (⟨[⟨1, 0, 0⟩], sz, 0, d.fails⟩ : Lg).next := ⟨_, rfl⟩
      rw [← hq] at HKN HNB2 HN1
      have HQD := Lib.hid hq
      clear hlne hq
      go_wp2_with fail
      refine HKN.out.mono ?_
      rintro e w9 ⟨rfl, hx9⟩
      have hc9 := HC.out.ext hx9
      have hk9 := HK.out.ext hx9
      have hb9 := HB.out.kb (Kb.of_ext hx9)
      have hw : IntKind.i64.wrap ((q : Int) - 1) = ((q - 1 : Nat) : Int) := by rw [IntWalk.i64_in _ (by have := HNB2.out; have := HN1.out; omega)]; have := HN1.out; omega
      have k3 := hc9.hl.str.blk.cell (i := 3) rfl
      have t3 := hc9.hl.str.blk.thaw 3
      obtain ⟨hc10, hk10⟩ := hc9.sure (q - 1)
      have HC10 := Lib.hid hc10
      have HK10 := Lib.hid (hk9.trans hk10)
      have HB10 := Lib.hid (hb9.step hk10)
      clear hc9 hk9 hb9 hc10 hk10 hx9
      obtain ⟨q1, hq1⟩ : ∃ q1, q1 = q - 1 := ⟨_, rfl⟩
      rw [← hq1] at HC10 HK10 HB10 hw
      have HQ1 := Lib.hid hq1
      clear hq1
      go_wp2_with fail
      go_ret3
      refine OpenQ.good (HU.out.trans ?_) rfl HC10.out HK10.out HB10.out
      unfold wOpened
      rw [HQ1.out, HQD.out]
    · rw [if_neg hse] at HU
      obtain ⟨g, cv, rfl, -⟩ := HC.out.hl.slice (show (⟨ss, sz, 0, d.fails⟩ : Lg).segs ≠ [] from hse)
      have k0 := HC.out.hl.str.blk.cell (i := 0) rfl
      have hpos : 0 < ss.length := List.length_pos_iff.2 hse
      have hsl : (⟨ss, sz, 0, d.fails⟩ : Lg).segs.length = ss.length := rfl
      rw [hsl] at k0 HC HK HB
      have hlen0 : ¬ (ss.length : Int) = 0 := by omega
      obtain ⟨i, hi⟩ : ∃ i, i = ss.length - 1 := ⟨_, rfl⟩
      obtain ⟨s, hs⟩ : ∃ s, s = ss.getLastD ⟨1, 0, 0⟩ := ⟨_, rfl⟩
      have hi2 := Lg.last_at (l := ⟨ss, sz, 0, d.fails⟩) hse
      rw [show (⟨ss, sz, 0, d.fails⟩ : Lg).segs.length - 1 = i from hi.symm, show (⟨ss, sz, 0, d.fails⟩ : Lg).last = s from hs.symm] at hi2
      rw [← hs] at HU HLAST
      have HI := Lib.hid hi
      have HI2 := Lib.hid hi2
      have HNB := Lib.hid (show (⟨ss, sz, 0, d.fails⟩ : Lg).next ≤ 9000000000000000000 by have := HLAST.out hse; unfold Lg.next; rw [show (⟨ss, sz, 0, d.fails⟩ : Lg).last = s from hs.symm]; omega)
      have HN1 := Lib.hid (show 1 ≤ (⟨ss, sz, 0, d.fails⟩ : Lg).next by have := HLAST.out hse; unfold Lg.next; rw [show (⟨ss, sz, 0, d.fails⟩ : Lg).last = s from hs.symm]; omega)
      have HSNE := Lib.hid hse
      have HLA := Lib.hid (wlast_any HC.out.hl (show (⟨ss, sz, 0, d.fails⟩ : Lg).segs ≠ [] from hse))
      rw [show (⟨ss, sz, 0, d.fails⟩ : Lg).segs.length - 1 = i from hi.symm] at HLA
      clear hi hi2 hs hpos hsl
      go_wp2_with fail
      refine HLA.out.mono ?_
      rintro e w4 ⟨rfl, hx4⟩
      clear k0 hlen0 HLA
      replace HC := Lib.hid (HC.out.ext hx4)
      replace HK := Lib.hid (HK.out.ext hx4)
      replace HB := Lib.hid (HB.out.kb (Kb.of_ext hx4))
      clear hx4
      cases torn
      · replace HU := Lib.hid (HU.out.trans (show _ = if (dSync d (wname (s.frm : Int))).2 ≠ 0 then (⟨(dSync d (wname (s.frm : Int))).1, none, [], (dSync d (wname (s.frm : Int))).2⟩ : Wo) else wOpened (dSync d (wname (s.frm : Int))).1 ss a sz d.fails from rfl))
        have HLA2 := Lib.hid (wlast_any HC.out.hl (show (⟨ss, sz, 0, d.fails⟩ : Lg).segs ≠ [] from hse))
        rw [show (⟨ss, sz, 0, d.fails⟩ : Lg).segs.length - 1 = i from HI.out.symm] at HLA2
        go_wp2_with fail
        refine HLA2.out.mono ?_
        rintro e w5 ⟨rfl, hx5⟩
        replace HC := Lib.hid (HC.out.ext hx5)
        replace HK := Lib.hid (HK.out.ext hx5)
        replace HB := Lib.hid (HB.out.kb (Kb.of_ext hx5))
        clear hx5
        have c1 := (LgM.cells HC.out.hl HI2.out).1
        have HNA := Lib.hid (wName_any (s.frm : Int) w5 (HT.out.ext HC.out.hx))
        go_wp2_with fail
        refine HNA.out.mono ?_
        rintro e w6 ⟨rfl, hx6⟩
        replace HC := Lib.hid (HC.out.ext hx6)
        replace HK := Lib.hid (HK.out.ext hx6)
        replace HB := Lib.hid (HB.out.kb (Kb.of_ext hx6))
        clear hx6
        have HSY := Lib.hid (sync_any HC.out.hd HOK.out (HSC.out.small (by have := HC0.out; omega)) HC.out.hx.size (wname (s.frm : Int)) (Nat.le_trans (wname_len _) (by decide)))
        clear c1
        go_wp2_with fail
        refine (HSY.out).mono ?_
        rintro e w7 ⟨pl2, ms2, rfl, hs7⟩
        obtain ⟨hc7, hk7⟩ := HC.out.dks hs7
        replace HB := Lib.hid (HB.out.step hk7)
        replace HK := Lib.hid (HK.out.trans hk7)
        replace HC := Lib.hid hc7
        clear hs7 hc7 hk7
        generalize dSync d (wname (s.frm : Int)) = x at *
        by_cases hx0 : x.2 = 0
        rotate_left
        · have hx1 : ¬ (x.2 : Int) = 0 := by omega
          rw [if_pos hx0] at HU
          clear hx0
          go_wp2_with fail
          go_ret3
          exact OpenQ.bad HU.out rfl (Cont.dks HC.out HK.out)
        rw [if_neg (by omega)] at HU
        rw [hx0]
        have hlne : (⟨ss, sz, 0, d.fails⟩ : Lg).segs ≠ [] := HSNE.out
        have HKN := Lib.hid (wnext_any HC.out.hl hlne HNB.out)
        have HNB2 := Lib.hid HNB.out
        obtain ⟨q, hq⟩ : ∃ q, q = (⟨ss, sz, 0, d.fails⟩ : Lg).next := ⟨_, rfl⟩
        rw [← hq] at HKN HNB2 HN1
        have HQD := Lib.hid hq
        clear hlne hq
        go_wp2_with fail
        refine HKN.out.mono ?_
        rintro e w9 ⟨rfl, hx9⟩
        have hc9 := HC.out.ext hx9
        have hk9 := HK.out.ext hx9
        have hb9 := HB.out.kb (Kb.of_ext hx9)
        have hw : IntKind.i64.wrap ((q : Int) - 1) = ((q - 1 : Nat) : Int) := by rw [IntWalk.i64_in _ (by have := HNB2.out; have := HN1.out; omega)]; have := HN1.out; omega
        have k3 := hc9.hl.str.blk.cell (i := 3) rfl
        have t3 := hc9.hl.str.blk.thaw 3
        obtain ⟨hc10, hk10⟩ := hc9.sure (q - 1)
        have HC10 := Lib.hid hc10
        have HK10 := Lib.hid (hk9.trans hk10)
        have HB10 := Lib.hid (hb9.step hk10)
        clear hc9 hk9 hb9 hc10 hk10 hx9
        obtain ⟨q1, hq1⟩ : ∃ q1, q1 = q - 1 := ⟨_, rfl⟩
        rw [← hq1] at HC10 HK10 HB10 hw
        have HQ1 := Lib.hid hq1
        clear hq1
        go_wp2_with fail
        go_ret3
        refine OpenQ.good (HU.out.trans ?_) rfl HC10.out HK10.out HB10.out
        unfold wOpened
        rw [HQ1.out, HQD.out]
      · replace HU := Lib.hid (HU.out.trans (show _ = if (if (dCut d (wname (s.frm : Int)) (s.bytes : Int)).2 ≠ 0 then dCut d (wname (s.frm : Int)) (s.bytes : Int) else dSync (dCut d (wname (s.frm : Int)) (s.bytes : Int)).1 (wname (s.frm : Int))).2 ≠ 0 then (⟨(if (dCut d (wname (s.frm : Int)) (s.bytes : Int)).2 ≠ 0 then dCut d (wname (s.frm : Int)) (s.bytes : Int) else dSync (dCut d (wname (s.frm : Int)) (s.bytes : Int)).1 (wname (s.frm : Int))).1, none, [], (if (dCut d (wname (s.frm : Int)) (s.bytes : Int)).2 ≠ 0 then dCut d (wname (s.frm : Int)) (s.bytes : Int) else dSync (dCut d (wname (s.frm : Int)) (s.bytes : Int)).1 (wname (s.frm : Int))).2⟩ : Wo) else wOpened (if (dCut d (wname (s.frm : Int)) (s.bytes : Int)).2 ≠ 0 then dCut d (wname (s.frm : Int)) (s.bytes : Int) else dSync (dCut d (wname (s.frm : Int)) (s.bytes : Int)).1 (wname (s.frm : Int))).1 ss a sz d.fails from rfl))
        have HYOK := Lib.hid (dCut_ok HOK.out (wname (s.frm : Int)) (s.bytes : Int))
        have HYSM := Lib.hid ((HSC.out.grow (dCut_grow d (wname (s.frm : Int)) (s.bytes : Int))).small (by have := HC0.out; omega))
        go_wp2_with fail
        refine wp_region_tok [false, false, false, false, false, true, false, false, false, false, true, false] (Kb (FFd w4 bd bm pl d ms)) (fun c w => if c < 2 then DkM W0.heap.size w bd bm pl d ms else ∃ pl2 ms2, DkM W0.heap.size w bd bm pl2 (dCut d (wname (s.frm : Int)) (s.bytes : Int)).1 ms2 ∧ ∀ k, dall bd bm pl2 (dCut d (wname (s.frm : Int)) (s.bytes : Int)).1 ms2 k → FFd w4 bd bm pl d ms k) 2 (by kernel_rfl) (by kernel_rfl) (by kernel_rfl) (by kernel_rfl) (preKb' _) (Kb.of_ext (ext_drew w4)) (HC.out.hd.ext (ext_drew w4)) ?_
        refine tok_val rfl (.pointer (some ⟨bd, 0, none⟩)) (fun _ _ _ => rfl) ?_ ?_
        · rintro ρ w' he ⟨h0, -⟩
          have e0 : ρ 0 = .pointer (some ⟨bd, 0, none⟩) := h0
          simp [execOp, evR, e0, go_sem]
        refine tok_val rfl (.pointer (some ⟨g, i * 3, none⟩)) (fun _ _ _ => rfl) ?_ ?_
        · rintro ρ w' he ⟨h13, -⟩
          have e13 : ρ 13 = .pointer (some ⟨g, i * 3, none⟩) := h13
          simp [execOp, evR, e13, go_sem]
        refine tok_val rfl (.pointer (some ⟨g, i * 3, none⟩)) (fun _ _ _ => rfl) ?_ ?_
        · rintro ρ w' he ⟨h52, -⟩
          have e52 : ρ 52 = .pointer (some ⟨g, i * 3, none⟩) := h52
          simp [execOp, evR, e52, go_sem]
        refine tok_val rfl (.pointer (some ⟨g, i * 3, none⟩)) (fun _ _ _ => rfl) ?_ ?_
        · rintro ρ w' he ⟨h53, -⟩
          have e53 : ρ 53 = .pointer (some ⟨g, i * 3, none⟩) := h53
          simp [execOp, evR, e53, go_sem]
        refine tok_val rfl (.int .i64 (s.frm : Int)) (fun _ _ _ => rfl) ?_ ?_
        · rintro ρ w' he ⟨h54, -⟩
          have e54 : ρ 54 = .pointer (some ⟨g, i * 3, none⟩) := h54
          have c := (LgM.cells (HC.out.log he) HI2.out).1
          simp [execOp, evR, e54, c, go_sem]
        refine tok_call rfl rfl Tryd.func9 (by kernel_rfl) (fun v _ => v = .string ⟨(wname (s.frm : Int)).toArray⟩) (fun _ _ _ h _ => h) (fun _ _ _ => rfl) ?_ ?_
        · rintro ρ w' he ht ⟨h55, -⟩
          have e55 : ρ 55 = .int .i64 (s.frm : Int) := h55
          simp only [evR, List.map_toArray, List.map_cons, List.map_nil, e55]
          have hp : DkM W0.heap.size w' bd bm pl d ms := ht
          refine (wName_any (s.frm : Int) w' (HC.out.tb he)).mono ?_
          rintro e w2 ⟨rfl, hx2⟩
          exact ⟨_, rfl, Kb.of_ext hx2, rfl, hp.ext hx2⟩
        refine tok_val rfl (.pointer (some ⟨g, i * 3, none⟩)) (fun _ _ _ => rfl) ?_ ?_
        · rintro ρ w' he ⟨h13, -⟩
          have e13 : ρ 13 = .pointer (some ⟨g, i * 3, none⟩) := h13
          simp [execOp, evR, e13, go_sem]
        refine tok_val rfl (.pointer (some ⟨g, i * 3, none⟩)) (fun _ _ _ => rfl) ?_ ?_
        · rintro ρ w' he ⟨h57, -⟩
          have e57 : ρ 57 = .pointer (some ⟨g, i * 3, none⟩) := h57
          simp [execOp, evR, e57, go_sem]
        refine tok_val rfl (.pointer (some ⟨g, i * 3 + 2, none⟩)) (fun _ _ _ => rfl) ?_ ?_
        · rintro ρ w' he ⟨h58, -⟩
          have e58 : ρ 58 = .pointer (some ⟨g, i * 3, none⟩) := h58
          simp [execOp, evR, e58, go_sem]
        refine tok_val rfl (.int .i64 (s.bytes : Int)) (fun _ _ _ => rfl) ?_ ?_
        · rintro ρ w' he ⟨h59, -⟩
          have e59 : ρ 59 = .pointer (some ⟨g, i * 3 + 2, none⟩) := h59
          have c := (LgM.cells (HC.out.log he) HI2.out).2.2
          simp [execOp, evR, e59, c, go_sem]
        refine tok_call rfl rfl Tryd.func49 (by kernel_rfl) (fun v _ => v = .int .i64 ((dCut d (wname (s.frm : Int)) (s.bytes : Int)).2 : Int)) (fun _ _ _ h _ => h) (fun _ _ _ => rfl) ?_ ?_
        · rintro ρ w' he ht ⟨h51, h56, h60, -⟩
          have e51 : ρ 51 = .pointer (some ⟨bd, 0, none⟩) := h51
          have e56 : ρ 56 = .string ⟨(wname (s.frm : Int)).toArray⟩ := h56
          have e60 : ρ 60 = .int .i64 (s.bytes : Int) := h60
          simp only [evR, List.map_toArray, List.map_cons, List.map_nil, e51, e56, e60]
          have hp : DkM W0.heap.size w' bd bm pl d ms := ht
          refine (cut_any hp HOK.out (HSC.out.small (by have := HC0.out; omega)) (HC.out.ext_ he).size (wname (s.frm : Int)) (Nat.le_trans (wname_len _) (by decide)) (s.bytes : Int)).mono ?_
          rintro e w2 hq
          exact tok_disk he hq
        refine tok_val rfl (.int .i64 ((dCut d (wname (s.frm : Int)) (s.bytes : Int)).2 : Int)) (fun _ _ _ => rfl) ?_ ?_
        · rintro ρ w' he ⟨h61, -⟩
          have e61 : ρ 61 = .int .i64 ((dCut d (wname (s.frm : Int)) (s.bytes : Int)).2 : Int) := h61
          simp [execOp, evR, e61, go_sem]
        refine tok_nil ?_
        rintro ρ w' hle htk ⟨f12, f61, f60, f59, f58, f57, f56, f55, f54, f53, f52, f51, -⟩ -
        replace f51 : ρ 51 = .pointer (some ⟨bd, 0, none⟩) := f51
        replace f52 : ρ 52 = .pointer (some ⟨g, i * 3, none⟩) := f52
        replace f53 : ρ 53 = .pointer (some ⟨g, i * 3, none⟩) := f53
        replace f54 : ρ 54 = .pointer (some ⟨g, i * 3, none⟩) := f54
        replace f55 : ρ 55 = .int .i64 (s.frm : Int) := f55
        replace f56 : ρ 56 = .string ⟨(wname (s.frm : Int)).toArray⟩ := f56
        replace f57 : ρ 57 = .pointer (some ⟨g, i * 3, none⟩) := f57
        replace f58 : ρ 58 = .pointer (some ⟨g, i * 3, none⟩) := f58
        replace f59 : ρ 59 = .pointer (some ⟨g, i * 3 + 2, none⟩) := f59
        replace f60 : ρ 60 = .int .i64 (s.bytes : Int) := f60
        replace f61 : ρ 61 = .int .i64 ((dCut d (wname (s.frm : Int)) (s.bytes : Int)).2 : Int) := f61
        replace f12 : ρ 12 = .int .i64 ((dCut d (wname (s.frm : Int)) (s.bytes : Int)).2 : Int) := f12
        simp only [puts, Act.put, List.setIfInBounds_toArray, List.set_cons_zero, List.set_cons_succ]
        rw [f12]
        clear f12 f51 f52 f53 f54 f55 f56 f57 f58 f59 f60 f61
        obtain ⟨pl2, ms2, hd2, hf2⟩ := (show ∃ pl2 ms2, DkM W0.heap.size w' bd bm pl2 (dCut d (wname (s.frm : Int)) (s.bytes : Int)).1 ms2 ∧ ∀ k, dall bd bm pl2 (dCut d (wname (s.frm : Int)) (s.bytes : Int)).1 ms2 k → FFd w4 bd bm pl d ms k from htk)
        obtain ⟨hc7, hk7⟩ := HC.out.disk hle hd2 hf2
        replace HB := Lib.hid (HB.out.step hk7)
        replace HK := Lib.hid (HK.out.trans hk7)
        replace HC := Lib.hid hc7
        clear hc7 hk7 hd2 hf2 hle htk
        generalize dCut d (wname (s.frm : Int)) (s.bytes : Int) = y at *
        by_cases hy0 : y.2 = 0
        rotate_left
        · have hy1 : ¬ (y.2 : Int) = 0 := by omega
          rw [if_pos hy0, if_pos hy0] at HU
          clear hy0
          go_wp2_with fail
          go_ret3
          exact OpenQ.bad HU.out rfl (Cont.dks HC.out HK.out)
        have hy2 : ¬ y.2 ≠ 0 := by omega
        simp only [if_neg hy2] at HU
        clear hy2
        rw [hy0]
        have HLA2 := Lib.hid (wlast_any HC.out.hl (show (⟨ss, sz, 0, d.fails⟩ : Lg).segs ≠ [] from hse))
        rw [show (⟨ss, sz, 0, d.fails⟩ : Lg).segs.length - 1 = i from HI.out.symm] at HLA2
        go_wp2_with fail
        refine HLA2.out.mono ?_
        rintro e w5 ⟨rfl, hx5⟩
        replace HC := Lib.hid (HC.out.ext hx5)
        replace HK := Lib.hid (HK.out.ext hx5)
        replace HB := Lib.hid (HB.out.kb (Kb.of_ext hx5))
        clear hx5
        have c1 := (LgM.cells HC.out.hl HI2.out).1
        have HNA := Lib.hid (wName_any (s.frm : Int) w5 (HT.out.ext HC.out.hx))
        go_wp2_with fail
        refine HNA.out.mono ?_
        rintro e w6 ⟨rfl, hx6⟩
        replace HC := Lib.hid (HC.out.ext hx6)
        replace HK := Lib.hid (HK.out.ext hx6)
        replace HB := Lib.hid (HB.out.kb (Kb.of_ext hx6))
        clear hx6
        have HSY := Lib.hid (sync_any HC.out.hd HYOK.out HYSM.out HC.out.hx.size (wname (s.frm : Int)) (Nat.le_trans (wname_len _) (by decide)))
        clear c1
        go_wp2_with fail
        refine (HSY.out).mono ?_
        rintro e w7 ⟨pl3, ms3, rfl, hs7⟩
        obtain ⟨hc7, hk7⟩ := HC.out.dks hs7
        replace HB := Lib.hid (HB.out.step hk7)
        replace HK := Lib.hid (HK.out.trans hk7)
        replace HC := Lib.hid hc7
        clear hs7 hc7 hk7
        generalize dSync y.1 (wname (s.frm : Int)) = x at *
        by_cases hx0 : x.2 = 0
        rotate_left
        · have hx1 : ¬ (x.2 : Int) = 0 := by omega
          rw [if_pos hx0] at HU
          clear hx0
          go_wp2_with fail
          go_ret3
          exact OpenQ.bad HU.out rfl (Cont.dks HC.out HK.out)
        rw [if_neg (by omega)] at HU
        rw [hx0]
        have hlne : (⟨ss, sz, 0, d.fails⟩ : Lg).segs ≠ [] := HSNE.out
        have HKN := Lib.hid (wnext_any HC.out.hl hlne HNB.out)
        have HNB2 := Lib.hid HNB.out
        obtain ⟨q, hq⟩ : ∃ q, q = (⟨ss, sz, 0, d.fails⟩ : Lg).next := ⟨_, rfl⟩
        rw [← hq] at HKN HNB2 HN1
        have HQD := Lib.hid hq
        clear hlne hq
        go_wp2_with fail
        refine HKN.out.mono ?_
        rintro e w9 ⟨rfl, hx9⟩
        have hc9 := HC.out.ext hx9
        have hk9 := HK.out.ext hx9
        have hb9 := HB.out.kb (Kb.of_ext hx9)
        have hw : IntKind.i64.wrap ((q : Int) - 1) = ((q - 1 : Nat) : Int) := by rw [IntWalk.i64_in _ (by have := HNB2.out; have := HN1.out; omega)]; have := HN1.out; omega
        have k3 := hc9.hl.str.blk.cell (i := 3) rfl
        have t3 := hc9.hl.str.blk.thaw 3
        obtain ⟨hc10, hk10⟩ := hc9.sure (q - 1)
        have HC10 := Lib.hid hc10
        have HK10 := Lib.hid (hk9.trans hk10)
        have HB10 := Lib.hid (hb9.step hk10)
        clear hc9 hk9 hb9 hc10 hk10 hx9
        obtain ⟨q1, hq1⟩ : ∃ q1, q1 = q - 1 := ⟨_, rfl⟩
        rw [← hq1] at HC10 HK10 HB10 hw
        have HQ1 := Lib.hid hq1
        clear hq1
        go_wp2_with fail
        go_ret3
        refine OpenQ.good (HU.out.trans ?_) rfl HC10.out HK10.out HB10.out
        unfold wOpened
        rw [HQ1.out, HQD.out]
end Go.Proofs.YtagghghoimpofaaDoor
