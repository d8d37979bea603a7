/-
  Layer 12: change.Canon: the last write of each place, in order.
-/
import Derived.Test.YtocdifjdeifclaaCanRow
import Derived.Test.YtocdifjdeifclaaCanMap
import Derived.Test.YtocdifjdeifclaaCapPlain
namespace Go.Proofs.Ytocdifjdeifclaa
open Go Go.RowKit Mono Num Go.Sort
set_option linter.unusedVariables false
set_option linter.unusedSimpArgs false
set_option maxRecDepth 100000

theorem infoWrK : (Try.prog.info? 31).map (fun i => (i.zero, i.size, i.bytes)) = some (some (.agg #[.string ⟨#[]⟩, .int .i64 0, .bool false, .string ⟨#[]⟩]), 4, 48) := by kernel_rfl
theorem wrsC_flat (l : List Wr) (j : Nat) (hj : j < l.length * 4) : (wrsC l)[j]? = some (flatK wrE 4 l.toArray)[j]! := by
  refine four_at j (Q := fun j => j < l.length * 4 → (wrsC l)[j]? = some (flatK wrE 4 l.toArray)[j]!) (fun i => ?_) hj
  have key : ∀ r, r < 4 → (i * 4 + r < l.length * 4 → ∃ x, l[i]? = some x ∧ (flatK wrE 4 l.toArray)[i * 4 + r]! = (wrE x)[r]!) := fun r hr h => by
    have hi : i < l.length := by omega
    refine ⟨l[i], List.getElem?_eq_getElem hi, ?_⟩
    rw [get_flatK _ _ _ _ (by simpa using h), show (i * 4 + r) / 4 = i by omega, show (i * 4 + r) % 4 = r by omega]
    congr 2
    simp [hi]
  refine ⟨fun h => ?_, fun h => ?_, fun h => ?_, fun h => ?_⟩
  · obtain ⟨x, hx, e⟩ := key 0 (by omega) h
    exact (wrsC_get l i x hx).1.trans (congrArg some e.symm)
  · obtain ⟨x, hx, e⟩ := key 1 (by omega) h
    exact (wrsC_get l i x hx).2.1.trans (congrArg some e.symm)
  · obtain ⟨x, hx, e⟩ := key 2 (by omega) h
    exact (wrsC_get l i x hx).2.2.1.trans (congrArg some e.symm)
  · obtain ⟨x, hx, e⟩ := key 3 (by omega) h
    exact (wrsC_get l i x hx).2.2.2.trans (congrArg some e.symm)
theorem hr_of_row {w : World} {base g n c : Nat} {l : List Wr} (h : w.ownsRow base 31 4 (.slice (some ⟨g, 0, none⟩) n c) n (wrsC l)) (hn : l.length = n) : HR g 0 w l.toArray := by
  intro j hj
  have hj' : j < l.length * 4 := by simpa using hj
  rw [Nat.zero_add]
  exact ⟨(World.ownsRow.cellAt h j (by omega)).trans (wrsC_flat l j hj'), World.ownsRow.frozenAt h j⟩
theorem ws_of_hr {w : World} {g n c : Nat} {d : Array Wr} (h : HR g 0 w d) (hn : d.size = n) (hnc : n ≤ c) (hcm : c ≤ maxLen) (hg : g < w.heap.size) (hin : ∀ x ∈ d.toList, x.fits) : Ws w (.slice (some ⟨g, 0, none⟩) n c) d.toList := by
  refine ⟨⟨_, c, by rw [Array.length_toList, hn], by rw [Array.length_toList, hn]; exact hnc, hcm, by simp, fun _ => ⟨g, 0, rfl, hg, fun i x hx => ?_⟩⟩, hin⟩
  have hi : i < d.size := by simpa using (List.getElem?_eq_some_iff.1 hx).1
  have e : d[i]! = x := by
    rw [getElem!_pos d i hi]
    have := (List.getElem?_eq_some_iff.1 hx).2
    simpa using this
  have c0 := (h.cell hi (c := 0) (by omega)).1
  have c1 := (h.cell hi (c := 1) (by omega)).1
  have c2 := (h.cell hi (c := 2) (by omega)).1
  have c3 := (h.cell hi (c := 3) (by omega)).1
  rw [e] at c0 c1 c2 c3
  exact ⟨c0, c1, c2, c3⟩
theorem blk_grown {w w' : World} {b : Nat} {L : List Value} {row : Option Nat} (h : Blk w b L) (hg : w.grownBy w' row) (hn : some b ≠ row) : Blk w' b L := by
  obtain ⟨T, hT⟩ := h
  exact ⟨T, (hg.block b (Array.getElem?_eq_some_iff.1 hT).1 hn).trans hT⟩
/-- What stands while the last writes are gathered. -/
structure CanJ (w : World) (mb ob : Nat) (ws : List Wr) (k : Nat) (vo : Value) (out : List Wr) (W : World) : Prop where
  map : W.ownsMap Try.prog 82 (plainElem (H := Unit) Try.prog 3) mb ws.length (lmap ws)
  box : Blk W ob [vo]
  row : W.ownsRow (ob + 1) 31 4 vo out.length (wrsC out)
  ext : Ext w W
  size : ob + 1 ≤ W.heap.size
  eq : out ++ keepLast (ws.drop k) = keepLast ws
  lo : w.heap.size ≤ mb
  hi : mb < ob
theorem CanJ.more {w : World} {mb ob : Nat} {ws : List Wr} {k : Nat} {vo : Value} {out : List Wr} {W W' : World} (h : CanJ w mb ob ws k vo out W) (he : Ext W W') : CanJ w mb ob ws k vo out W' := by
  have hg : W.grownBy W' none := ⟨he.os, he.tape, he.output, he.size, fun j hj _ => he.block j hj⟩
  exact ⟨h.map.kept hg (by simp), h.box.ext he, h.row.kept hg (by cases vo.ownBlock <;> simp), h.ext.trans he, Nat.le_trans h.size he.size, h.eq, h.lo, h.hi⟩
theorem CanJ.skip {w : World} {mb ob : Nat} {ws : List Wr} {k : Nat} {vo : Value} {out : List Wr} {W : World} {x : Wr} (h : CanJ w mb ob ws k vo out W) (hx : ws[k]? = some x) (hq : (ws.drop (k + 1)).any (samePl x) = true) : CanJ w mb ob ws (k + 1) vo out W := by
  have hd : ws.drop k = x :: ws.drop (k + 1) := by
    rw [List.drop_eq_getElem_cons (List.getElem?_eq_some_iff.1 hx).1]
    rw [(List.getElem?_eq_some_iff.1 hx).2]
  have he := h.eq
  rw [hd, keepLast, if_pos hq] at he
  exact { h with eq := he }
/-- A write is appended and the box written. -/
theorem CanJ.add {w : World} {mb ob : Nat} {ws : List Wr} {k : Nat} {vo v' : Value} {out : List Wr} {W W1 W2 : World} {x : Wr} (h : CanJ w mb ob ws k vo out W) (hx : ws[k]? = some x) (hq : (ws.drop (k + 1)).any (samePl x) = false)
    (he : Ext W W1) (hown : W2.ownsRow (ob + 1) 31 4 v' (out.length + 1) (wrsC out ++ wrE x)) (hg : W1.grownBy W2 vo.ownBlock) : CanJ w mb ob ws (k + 1) v' (out ++ [x]) (W2.setCell ⟨ob, 0, none⟩ v') := by
  have h1 := h.more he
  have hd : ws.drop k = x :: ws.drop (k + 1) := by
    rw [List.drop_eq_getElem_cons (List.getElem?_eq_some_iff.1 hx).1]
    rw [(List.getElem?_eq_some_iff.1 hx).2]
  have heq := h.eq
  rw [hd, keepLast, if_neg (by rw [hq]; decide)] at heq
  have hlow := World.ownsRow.lt h1.row
  have hbk : ∀ b, b < ob + 1 → some b ≠ vo.ownBlock := fun b hb e => by have := (hlow b e.symm).1; omega
  have hgs : W2.grownBy (W2.setCell ⟨ob, 0, none⟩ v') (some ob) := ⟨rfl, rfl, rfl, by simp, fun j _ hn => Below.heap_setCell W2 ⟨ob, 0, none⟩ v' j (fun e => hn (by rw [e]))⟩
  have hlo := h.lo
  have hhi := h.hi
  refine ⟨(h1.map.kept hg (hbk mb (by omega))).kept hgs (by intro e; injection e with e; omega), ?_, ?_, ?_, ?_, ?_, hlo, hhi⟩
  · exact ((blk_grown h1.box hg (hbk ob (by omega))).set 0 v')
  · rw [List.length_append, show wrsC (out ++ [x]) = wrsC out ++ wrE x from by unfold wrsC wrE; simp]
    exact hown.kept hgs (.inr fun e => by have := (World.ownsRow.lt hown ob e).1; omega)
  · have e1 : Ext w W2 := Below.grown h1.ext hg h1.ext.size (fun j ej => by have := (hlow j ej).1; omega)
    exact Below.setCell e1 (by show w.heap.size ≤ ob; omega) v'
  · have := hg.size
    have := h1.size
    simp
    omega
  · rw [← heq]; simp
theorem getLast_split {ws : List Wr} {k : Nat} {x : Wr} (h : ws[k]? = some x) : (lastIx ws 0 x 0 = k) ↔ (ws.drop (k + 1)).any (samePl x) = false := by
  have hk : k < ws.length := (List.getElem?_eq_some_iff.1 h).1
  have hd : ws = ws.take k ++ x :: ws.drop (k + 1) := by
    conv => lhs; rw [← List.take_append_drop k ws]
    rw [List.drop_eq_getElem_cons hk, (List.getElem?_eq_some_iff.1 h).2]
  have := lastIx_own (ws.take k) (ws.drop (k + 1)) x
  rw [← hd, List.length_take, Nat.min_eq_left (by omega)] at this
  exact this
theorem keepLast_le : ∀ ws : List Wr, (keepLast ws).length ≤ ws.length
  | [] => Nat.le_refl _
  | a :: r => by
    unfold keepLast
    split
    · exact Nat.le_succ_of_le (keepLast_le r)
    · simpa using keepLast_le r

theorem row_sliceK {W : World} {z k sz : Nat} {e : TypeId} {v : Value} {xs : List Value} (h : W.ownsRow z e sz v k xs) : ∃ A c, v = .slice A k c := by
  rcases h.2 with ⟨rfl, h0⟩ | ⟨g, cap, cur, rfl, _⟩
  · exact ⟨none, 0, by rw [h0]⟩
  · exact ⟨_, _, rfl⟩
set_option maxHeartbeats 4000000 in
theorem canon_any (v : Value) (ws : List Wr) (w : World) (h : Ws w v ws) (hl : ws.length ≤ 100000) :
    Calls Try.prog 24 #[v] w fun e w' => ∃ r, e = .returned r ∧ Ws w' r (rcanonF ws) ∧ Ext w w' := by
  obtain ⟨i0, hi0, hz0, hz1, hz2⟩ := info_parts infoWrK
  have HI0 := Lib.hid hi0
  have HZ0 := Lib.hid hz0
  have HZ1 := Lib.hid hz1
  have HZ2 := Lib.hid hz2
  obtain ⟨A, c, rfl, h1, h2, h3, h4⟩ := h.at_
  have H4 := Lib.hid h4
  have HFIT := Lib.hid h.2
  clear h h4 hi0 hz0 hz1 hz2
  go_enter Try.func24, Try.ntmps24
  have hmk : ∀ w : World, (Instr.makeMap 111 none).run Try.prog w = .ok (.map (some w.heap.size)) (w.alloc (.map #[] 0)) := fun w => run_makeMap _ w
  go_upto_region 2 with (fail)
  clear hmk
  have HM0 := Lib.hid (World.ownsMap_made w Try.prog 82 (plainElem (H := Unit) Try.prog 3))
  have HX0 := Lib.hid (ext_alloc w (.map #[] 0))
  obtain ⟨mb, hmb⟩ : ∃ n, n = w.heap.size := ⟨_, rfl⟩
  have HLO := Lib.hid (show w.heap.size ≤ mb by omega)
  rw [← hmb] at HM0 ⊢
  clear hmb
  generalize w.alloc (.map #[] 0) = W0 at *
  go_wp2_with fail
  go_loopw [12] (fun i wr => ∃ k : Nat, k ≤ ws.length ∧ i = .int .i64 k ∧ Hid (wr.ownsMap Try.prog 82 (plainElem (H := Unit) Try.prog 3) mb k (lmap (ws.take k))) ∧ Hid (Ext w wr)) (fun i _ => ws.length - (intOf i).toNat)
  case atStart => exact ⟨0, Nat.zero_le _, rfl, Lib.hid (by simpa [lmap, lmapG] using HM0.out), HX0⟩
  case round =>
    obtain ⟨k, hk, rfl, HM, HX⟩ := hrel
    clear HM0 HX0
    by_cases hlt : k < ws.length
    · obtain ⟨b, off, rfl, hb, hc⟩ := H4.out (by omega)
      obtain ⟨ky, gi, d, z, hget, p0, p1, p2, p3, -, -, -⟩ := hc k hlt
      have HGET := Lib.hid hget
      replace p0 := (HX.out.cell (p := ⟨b, off + k * 4, none⟩) hb).trans p0
      replace p1 := (HX.out.cell (p := ⟨b, off + k * 4 + 1, none⟩) hb).trans p1
      replace p2 := (HX.out.cell (p := ⟨b, off + k * 4 + 2, none⟩) hb).trans p2
      replace p3 := (HX.out.cell (p := ⟨b, off + k * 4 + 3, none⟩) hb).trans p3
      have HFX := Lib.hid (plOk_of (HFIT.out _ (List.mem_of_getElem? hget)))
      unfold strV at p0 p3
      clear hget hc
      go_upto_region 5 with (fail)
      clear p0 p1 p2 p3
      have bt := Blk.new wr #[.string ⟨ky.toArray⟩, .int .i64 gi, .bool d, .string ⟨z.toArray⟩] 31
      have HX1 := Lib.hid (HX.out.trans (ext_alloc wr (.cells #[.string ⟨ky.toArray⟩, .int .i64 gi, .bool d, .string ⟨z.toArray⟩] 31)))
      have HM1 := Lib.hid (HM.out.alloc (.cells #[.string ⟨ky.toArray⟩, .int .i64 gi, .bool d, .string ⟨z.toArray⟩] 31))
      generalize wr.heap.size = n8 at *
      generalize wr.alloc (.cells #[.string ⟨ky.toArray⟩, .int .i64 gi, .bool d, .string ⟨z.toArray⟩] 31) = W1 at *
      have k0 := bt.cell (i := 0) rfl
      have k1 := bt.cell (i := 1) rfl
      have k2 := bt.cell (i := 2) rfl
      have k3 := bt.cell (i := 3) rfl
      have hof := of_any ⟨ky, gi, d, z⟩ W1
      unfold strV at hof
      clear bt
      go_wp2_with fail
      refine hof.mono ?_
      rintro e W2 ⟨rfl, x2⟩
      clear k0 k1 k2 k3 hof
      have HX2 := Lib.hid (HX1.out.trans x2)
      have HM2 := Lib.hid (HM1.out.kept (row := none) ⟨x2.os, x2.tape, x2.output, x2.size, fun j hj _ => x2.block j hj⟩ (by simp))
      have HKEY := Lib.hid (show keyOf Try.prog 82 (.agg #[.string ⟨ky.toArray⟩, .int .i64 gi]) = some (plit ky gi) from place_key ky gi HFX.out.1 HFX.out.2)
      have HWF := Lib.hid (show (Lit.int .i64 (k : Int)).wf = true from by simp [Lit.wf, IntKind.min, IntKind.max, IntKind.signed, IntKind.bits]; omega)
      clear x2
      dsimp only
      go_wp2_with (at_mapUpdate; refine wpList_mapUpdate_own _ rfl _ _ _ 111 rfl 82 3 place_keyed Try.underlying111 _ mb k _ rfl HM2.out (by unfold maxLen; omega) _ _ _ rfl rfl HKEY.out _ [] (plainElem_int Try.underlying3 HWF.out) ?_; intro w3 hown3 hgrow3; have HM3 := Lib.hid hown3; have HG3 := Lib.hid hgrow3; clear hown3 hgrow3)
      go_roundw
      case rel =>
        refine ⟨k + 1, by omega, by go_num, Lib.hid ?_, Lib.hid ?_⟩
        · rw [List.take_add_one, HGET.out]
          show World.ownsMap _ _ _ _ _ _ (lmap (ws.take k ++ [⟨ky, gi, d, z⟩]))
          rw [lmap_snoc, List.length_take, Nat.min_eq_left hk]
          exact HM3.out
        · exact Below.grown HX2.out HG3.out HX2.out.size (fun j ej => by injection ej with ej; have := HLO.out; omega)
      case measure => simp [intOf]; omega
    · obtain rfl : k = ws.length := by omega
      have HMA : Hid (wr.ownsMap Try.prog 82 (plainElem (H := Unit) Try.prog 3) mb ws.length (lmap ws)) := Lib.hid (by have := HM.out; rwa [List.take_length] at this)
      have hmlt := HMA.out.lt
      clear HM hk hlt
      go_upto_region 8 with (fail)
      obtain ⟨T, hT⟩ : ∃ T, T = 27 := ⟨_, rfl⟩
      have HJ0 : Hid (CanJ w mb wr.heap.size ws 0 (.slice none 0 0) [] (wr.alloc (.cells #[.slice none 0 0] 27))) := Lib.hid ⟨HMA.out.alloc _, Blk.new _ _ _, World.ownsRow_nil _ _ _ _, HX.out.trans (ext_alloc _ _), by simp, rfl, HLO.out, hmlt⟩
      clear hT T hmlt HMA HX
      obtain ⟨ob, hob⟩ : ∃ n, n = wr.heap.size := ⟨_, rfl⟩
      rw [← hob] at HJ0 ⊢
      clear hob
      generalize wr.alloc (.cells #[.slice none 0 0] 27) = W0 at *
      go_wp2_with fail
      go_loopw [24] (fun i wr => ∃ k vo out, k ≤ ws.length ∧ i = .int .i64 (k : Nat) ∧ Hid (CanJ w mb ob ws k vo out wr)) (fun i _ => ws.length - (intOf i).toNat)
      case atStart => exact ⟨0, _, _, Nat.zero_le _, rfl, HJ0⟩
      case round =>
        obtain ⟨k, vo, out, hk, rfl, HJ⟩ := hrel
        clear HJ0
        by_cases hlt : k < ws.length
        · obtain ⟨b, off, rfl, hb, hc⟩ := H4.out (by omega)
          obtain ⟨ky, gi, d, z, hget, p0, p1, p2, p3, -, -, -⟩ := hc k hlt
          have HGET := Lib.hid hget
          replace p0 := (HJ.out.ext.cell (p := ⟨b, off + k * 4, none⟩) hb).trans p0
          replace p1 := (HJ.out.ext.cell (p := ⟨b, off + k * 4 + 1, none⟩) hb).trans p1
          replace p2 := (HJ.out.ext.cell (p := ⟨b, off + k * 4 + 2, none⟩) hb).trans p2
          replace p3 := (HJ.out.ext.cell (p := ⟨b, off + k * 4 + 3, none⟩) hb).trans p3
          have HFX := Lib.hid (plOk_of (HFIT.out _ (List.mem_of_getElem? hget)))
          unfold strV at p0 p3
          clear hget hc
          go_upto_region 11 with (fail)
          clear p0 p1 p2 p3
          have bt := Lib.hid (Blk.new wr #[.string ⟨ky.toArray⟩, .int .i64 gi, .bool d, .string ⟨z.toArray⟩] 31)
          have HJ1 := Lib.hid (HJ.out.more (ext_alloc wr (.cells #[.string ⟨ky.toArray⟩, .int .i64 gi, .bool d, .string ⟨z.toArray⟩] 31)))
          have HE1 := Lib.hid (ext_alloc wr (.cells #[.string ⟨ky.toArray⟩, .int .i64 gi, .bool d, .string ⟨z.toArray⟩] 31))
          generalize hn8 : wr.heap.size = n8 at *
          clear hn8
          generalize wr.alloc (.cells #[.string ⟨ky.toArray⟩, .int .i64 gi, .bool d, .string ⟨z.toArray⟩] 31) = W1 at *
          have k0 := bt.out.cell (i := 0) rfl
          have k1 := bt.out.cell (i := 1) rfl
          have k2 := bt.out.cell (i := 2) rfl
          have k3 := bt.out.cell (i := 3) rfl
          have hof := of_any ⟨ky, gi, d, z⟩ W1
          unfold strV at hof
          go_wp2_with fail
          refine hof.mono ?_
          rintro e W2 ⟨rfl, x2⟩
          clear k0 k1 k2 k3 hof
          have HJ2 := Lib.hid (HJ1.out.more x2)
          have HE2 := Lib.hid (HE1.out.trans x2)
          have bt2 := Lib.hid (bt.out.ext x2)
          have HKEY := Lib.hid (show keyOf Try.prog 82 (.agg #[.string ⟨ky.toArray⟩, .int .i64 gi]) = some (plit ky gi) from place_key ky gi HFX.out.1 HFX.out.2)
          have HAT := Lib.hid (lmap_at (x := ⟨ky, gi, d, z⟩) HFX.out ws (fun y hy => plOk_of (HFIT.out y hy)))
          have HSP := Lib.hid (getLast_split HGET.out)
          clear x2 bt
          generalize lastIx ws 0 ⟨ky, gi, d, z⟩ 0 = ix at *
          dsimp only
          dsimp only at HAT
          by_cases hq : ix = k
          · have HQ := Lib.hid (HSP.out.1 hq)
            subst hq
            clear HSP
            go_upto_region 12 with (at_lookup; refine wpList_lookup_own_int _ rfl (.tmp 29) (.tmp 31) 111 rfl 82 3 .i64 place_keyed Try.underlying111 Try.underlying3 (zeroInt _) mb ws.length _ rfl HJ2.out.map _ _ rfl HKEY.out ?_; intro c1 hat1 hwc1; obtain rfl : c1 = (ix : Int) := (by have := hat1.symm.trans HAT.out; injection this with this; injection this); clear hat1 hwc1)
            have f0 := HJ2.out.box.cell (i := 0) rfl
            have k0 := bt2.out.cell (i := 0) rfl
            have k1 := bt2.out.cell (i := 1) rfl
            have k2 := bt2.out.cell (i := 2) rfl
            have k3 := bt2.out.cell (i := 3) rfl
            have bl := Blk.new W2 #[.string ⟨ky.toArray⟩, .int .i64 gi, .bool d, .string ⟨z.toArray⟩] 31
            have hF : Fl (W2.alloc (.cells #[.string ⟨ky.toArray⟩, .int .i64 gi, .bool d, .string ⟨z.toArray⟩] 31)) (.slice (some ⟨W2.heap.size, 0, none⟩) 1 1) 1 [.string ⟨ky.toArray⟩, .int .i64 gi, .bool d, .string ⟨z.toArray⟩] := ⟨_, 1, rfl, Nat.le_refl _, by decide, by simp, fun _ => ⟨_, 0, rfl, bl.lt, fun j u hu => by rw [Nat.zero_add]; exact bl.cell (i := j) hu⟩⟩
            have h1c : ∀ u ∈ ([.string ⟨ky.toArray⟩, .int .i64 gi, .bool d, .string ⟨z.toArray⟩] : List Value), u.oneCell' = true := by intro u hu; simp only [List.mem_cons, List.not_mem_nil, or_false] at hu; rcases hu with rfl | rfl | rfl | rfl <;> rfl
            have hown := (HJ2.out.more (ext_alloc W2 (.cells #[.string ⟨ky.toArray⟩, .int .i64 gi, .bool d, .string ⟨z.toArray⟩] 31))).row
            have hsz := (HJ2.out.more (ext_alloc W2 (.cells #[.string ⟨ky.toArray⟩, .int .i64 gi, .bool d, .string ⟨z.toArray⟩] 31))).size
            have HFl := Lib.hid hF
            have HOw := Lib.hid hown
            have HSz := Lib.hid hsz
            have hol : out.length ≤ 100000 := by
              have e1 := congrArg List.length HJ2.out.eq
              have e2 := keepLast_le ws
              rw [List.length_append] at e1
              omega
            clear bl hF hown hsz
            go_upto_region 13 with (at_builtin; refine wpList_append_fl rfl (.tmp 35) (.tmp 37) 27 rfl (ob + 1) 31 i0 _ 4 48 Try.underlying27 HI0.out HZ0.out HZ1.out HZ2.out rfl (by decide) HOw.out HFl.out rfl rfl rfl h1c (by unfold maxLen; omega) (by omega) HSz.out ?_; intro v' w3 hown' hg hat; obtain ⟨A9, c9, rfl⟩ := row_sliceK hown'; clear hat k0 k1 k2 k3 f0; have HOw3 := Lib.hid hown'; have HG3 := Lib.hid hg; clear hown' hg; have f3 := blk_grown (HJ2.out.more (ext_alloc W2 (.cells #[.string ⟨ky.toArray⟩, .int .i64 gi, .bool d, .string ⟨z.toArray⟩] 31))).box HG3.out (fun e => by have := (World.ownsRow.lt HOw.out ob e.symm).1; omega); have t3 := f3.thaw 0; replace f3 := f3.cell (i := 0) rfl)
            clear f3 t3
            have HJ4 := Lib.hid (HJ2.out.add HGET.out HQ.out (ext_alloc W2 (.cells #[.string ⟨ky.toArray⟩, .int .i64 gi, .bool d, .string ⟨z.toArray⟩] 31)) HOw3.out HG3.out)
            clear HOw3 HG3 HOw HSz HFl h1c
            generalize w3.setCell ⟨ob, 0, none⟩ (.slice A9 (out.length + 1) c9) = W4 at *
            go_wp2_with fail
            go_roundw
            case rel => exact ⟨ix + 1, _, _, by omega, by go_num, HJ4⟩
            case measure => simp [intOf]; omega
          · have HQ := Lib.hid (show (ws.drop (k + 1)).any (samePl ⟨ky, gi, d, z⟩) = true from by
              cases h : (ws.drop (k + 1)).any (samePl ⟨ky, gi, d, z⟩) with
              | true => rfl
              | false => exact absurd (HSP.out.2 h) hq)
            clear HSP
            have hne : ¬ ((ix : Int) = (k : Int)) := by omega
            go_wp2_with (at_lookup; refine wpList_lookup_own_int _ rfl (.tmp 29) (.tmp 31) 111 rfl 82 3 .i64 place_keyed Try.underlying111 Try.underlying3 (zeroInt _) mb ws.length _ rfl HJ2.out.map _ _ rfl HKEY.out ?_; intro c1 hat1 hwc1; obtain rfl : c1 = (ix : Int) := (by have := hat1.symm.trans HAT.out; injection this with this; injection this); clear hat1 hwc1)
            go_roundw
            case rel => exact ⟨k + 1, _, _, by omega, by go_num, Lib.hid (HJ2.out.skip HGET.out HQ.out)⟩
            case measure => simp [intOf]; omega
        · have hkk : k = ws.length := by omega
          have HEQ : Hid (out = keepLast ws) := Lib.hid (by have := HJ.out.eq; rw [hkk, List.drop_length] at this; simpa [keepLast] using this)
          clear hkk
          have f0 := HJ.out.box.cell (i := 0) rfl
          have HOB := Lib.hid HJ.out.box
          have hlow := World.ownsRow.lt HJ.out.row
          have HLW := Lib.hid hlow
          have hms : ∀ z ∈ out, z.fits := fun z hz => HFIT.out z (keepLast_sub ws z (HEQ.out ▸ hz))
          have HMS := Lib.hid hms
          have hol : out.length ≤ 100000 := by
            have e1 := congrArg List.length HEQ.out
            have e2 := keepLast_le ws
            omega
          clear hlow hms
          by_cases h2l : 2 ≤ out.length
          · obtain ⟨g, cap, rfl, hgl, hcl, hcm⟩ : ∃ g cap, vo = .slice (some ⟨g, 0, none⟩) out.length cap ∧ g < wr.heap.size ∧ out.length ≤ cap ∧ cap ≤ maxLen := by
              rcases HJ.out.row.2 with ⟨_, hn⟩ | ⟨g, cap, cur, hv, _, hgb, hnc, hcm, _⟩
              · omega
              · exact ⟨g, cap, hv, (Array.getElem?_eq_some_iff.1 hgb).1, hnc, hcm⟩
            have hgo : ob + 1 ≤ g := (HLW.out g rfl).1
            have HSR := Lib.hid (sortWrites_any (n := out.length) (c := cap) (ob := ob) out.toArray wr h2l (by omega) hgl (hr_of_row HJ.out.row rfl) (by simp) HJ.out.box (by omega))
            go_wp2_with fail
            refine HSR.out.mono ?_
            rintro e W5 ⟨rfl, d', hp, ho, hrb, hr⟩
            have hd' : d'.size = out.length := by
              have := hp.1
              simpa using this
            have hfin := canonRow (n := out.length) (d := out.toArray) (d' := d') (ws := ws) (by simp) (by simpa using HEQ.out) hp ho
            have hws : Ws W5 (.slice (some ⟨g, 0, none⟩) out.length cap) (rcanonF ws) := by
              rw [← hfin]
              refine ws_of_hr hr hd' hcl hcm (Nat.lt_of_lt_of_le hgl hrb.size) (fun x hx => ?_)
              rw [hfin] at hx
              exact HFIT.out x (keepLast_sub ws x ((rcanonF_mem ws x).1 hx))
            have hob5 := hrb.blk HJ.out.box (show ob ≠ g by omega)
            have HW5 := Lib.hid hws
            have HX5 := Lib.hid (hrb.ext HJ.out.ext (by have := HJ.out.lo; have := HJ.out.hi; omega))
            clear f0 hp ho hrb hr hfin hws hd'
            have f5 := hob5.cell (i := 0) rfl
            clear hob5
            go_wp2_with fail
            go_ret
            exact ⟨_, rfl, HW5.out, HX5.out⟩
          · obtain ⟨p, n, cap, rfl⟩ : ∃ p n cap, vo = .slice p n cap := by
              rcases HJ.out.row.2 with ⟨hv, _⟩ | ⟨g, cap, cur, hv, _⟩
              · exact ⟨_, _, _, hv⟩
              · exact ⟨_, _, _, hv⟩
            have hn : n = out.length := by
              rcases HJ.out.row.2 with ⟨hv, hn⟩ | ⟨g, cap, cur, hv, _⟩
              · injection hv with _ hv _; omega
              · injection hv
            have HSR := Lib.hid (sortTiny_any (p := p) (n := n) (c := cap) (ob := ob) wr (by omega) (.func 63))
            have HWS := Lib.hid (ws_of_rowC (l := out) HJ.out.row HMS.out)
            have HTI : Hid (out = rcanonF ws) := Lib.hid (by rw [HEQ.out]; exact canonTiny (by rw [← HEQ.out]; omega))
            clear hn
            go_wp2_with fail
            refine HSR.out.mono ?_
            rintro e W5 ⟨rfl, hx5⟩
            have f5 := (HJ.out.box.ext hx5).cell (i := 0) rfl
            have HX5 := Lib.hid hx5
            clear f0 hx5
            go_wp2_with fail
            go_ret
            exact ⟨_, rfl, by rw [← HTI.out]; exact HWS.out.ext HX5.out, HJ.out.ext.trans HX5.out⟩
end Go.Proofs.Ytocdifjdeifclaa
