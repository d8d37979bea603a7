/-
  The walk of policy.Good: which groups are a schema.
-/
import Derived.Test.YtjajlbfokbmadaaDoorPolNamed
import Derived.Maps.Own
import Derived.Maps.OwnOps
import Derived.Maps.Views
namespace Go.Proofs.YtjajlbfokbmadaaDoor
open Go Go.RowKit Mono Num Go.Maps Go.WideMaps
set_option linter.unusedVariables false
set_option linter.unusedSimpArgs false
set_option maxRecDepth 10000

theorem klaw : Keyed Tryd.prog 9 := string_keyed Tryd.underlying9
theorem zeroInt (w : World) : (zeroValue 3).run Tryd.prog w = .ok (.int .i64 0) w := by kernel_rfl
/-- Each name that was met is there once. -/
def Met (D : DataW Unit) (names : List (List UInt8)) : Prop := IsMap D ∧ ∀ s : List UInt8, D.atKey (.string s) (.lit (.int .i64 0)) = .lit (.int .i64 (if s ∈ names then 1 else 0))
theorem Met.nil_ : Met (.map []) [] := ⟨isMap_empty, fun s => rfl⟩
theorem Met.snoc {D : DataW Unit} {names : List (List UInt8)} (h : Met D names) (n : List UInt8) (hk : WideAt.IsKeyLit (.string n)) : Met (D.put (.string n) (.lit (.int .i64 1))) (names ++ [n]) := by
  refine ⟨IsMap.put h.1 _ _, fun s => ?_⟩
  by_cases hs : s = n
  · subst hs
    rw [atKey_put_same h.1 hk]
    simp
  · rw [atKey_put_other (fun e => hs (by injection e)), h.2 s]
    simp [hs]
theorem ownsMap_ext {w w' : World} {k : TypeId} {R : Value → Option (DataW Unit × List MemPlace)} {b n : Nat} {D : DataW Unit} (h : w.ownsMap Tryd.prog k R b n D) (he : Ext w w') : w'.ownsMap Tryd.prog k R b n D := by
  have hbl := h.lt
  obtain ⟨es, clock, hb, F, hs, hD⟩ := h
  exact ⟨es, clock, (he.block b hbl).trans hb, F, hs, hD⟩
theorem pgood_start (l : List Grp) (h0 : l.length ≠ 0) (h4 : ¬ 4 < l.length) : pgood l = pgoodF [] l := by unfold pgood; rw [if_neg h0, if_neg h4]
theorem pgoodF_step (met : List (List UInt8)) (l : List Grp) (i : Nat) (n : List UInt8) (p : Int) (h : l[i]? = some (n, p)) :
    pgoodF met (l.drop i) = if grpOk (n, p) = false then 2 else if n ∈ met then 70 else pgoodF (met ++ [n]) (l.drop (i + 1)) := by
  have hi : i < l.length := (List.getElem?_eq_some_iff.1 h).1
  have : l.drop i = (n, p) :: l.drop (i + 1) := by
    rw [List.drop_eq_getElem_cons hi]
    congr 1
    exact (List.getElem?_eq_some_iff.1 h).2
  rw [this, pgoodF]

set_option maxHeartbeats 2000000 in
theorem polGood_any (v : Value) (l : List Grp) (w : World) (hv : Gs w v l) :
    Calls Tryd.prog 35 #[v] w fun e w' => e = .returned (.int .i64 ((pgood l : Nat) : Int)) ∧ Ext w w' := by
  obtain ⟨A, c, rfl, h1, h2, h3, h4⟩ := hv.at_
  have hmm := @run_makeMap Tryd.prog
  by_cases h0 : l.length = 0
  · have HP := Lib.hid (show pgood l = 2 by unfold pgood; rw [if_pos h0])
    obtain rfl := List.eq_nil_of_length_eq_zero h0
    go_enter Tryd.func35, Tryd.ntmps35
    go_wp2_with fail
    go_ret
    exact ⟨by rw [HP.out]; rfl, Ext.refl _⟩
  · by_cases h4l : 4 < l.length
    · have HP := Lib.hid (show pgood l = 3 by unfold pgood; rw [if_neg h0, if_pos h4l])
      have e0 : ((l.length : Int) == 0) = false := by rw [beq_eq_false_iff_ne]; omega
      go_enter Tryd.func35, Tryd.ntmps35
      go_wp2_with fail
      go_ret
      exact ⟨by rw [HP.out]; rfl, Ext.refl _⟩
    · have HP := Lib.hid (pgood_start l h0 h4l)
      obtain ⟨b, off, rfl, hb, hcell⟩ := h4 (by omega)
      have e0 : ((l.length : Int) == 0) = false := by rw [beq_eq_false_iff_ne]; omega
      clear h4
      have HC := Lib.hid hcell
      clear hcell
      go_enter Tryd.func35, Tryd.ntmps35
      go_wp2_with fail
      go_loopw [17] (fun i wr => ∃ (k : Nat) (D : DataW Unit), k ≤ l.length ∧ i = .int .i64 k ∧ wr.ownsMap Tryd.prog 9 (plainElem Tryd.prog 3) w.heap.size k D ∧ Met D ((l.take k).map (·.1)) ∧ pgood l = pgoodF ((l.take k).map (·.1)) (l.drop k) ∧ Ext w wr) (fun i _ => l.length - (intOf i).toNat)
      case atStart => exact ⟨0, .map [], Nat.zero_le _, rfl, World.ownsMap_made _ _ _ _, Met.nil_, HP.out, ext_alloc _ _⟩
      case round =>
        obtain ⟨i, D, hi, rfl, hown, hmet, hpg, hx⟩ := hrel
        by_cases hlt : i < l.length
        · obtain ⟨n, p, hget, hc1, hc2, hn, hp⟩ := HC.out i hlt
          have hst := pgoodF_step ((l.take i).map (·.1)) l i n p hget
          rw [← hpg] at hst
          have hts : (l.take (i + 1)).map (·.1) = (l.take i).map (·.1) ++ [n] := by rw [List.take_add_one, hget, List.map_append]; rfl
          replace hc1 := (hx.cell (p := ⟨b, off + i * 2, none⟩) hb).trans hc1
          replace hc2 := (hx.cell (p := ⟨b, off + i * 2 + 1, none⟩) hb).trans hc2
          have HS := Lib.hid hst
          have HT := Lib.hid hts
          have HM := Lib.hid hmet
          clear hst hts hpg hget hmet
          unfold strV at hc1
          have HN := Lib.hid (fun w => named_any n p w hn)
          unfold grpV strV at HN
          dsimp only at HN
          go_wp2_with fail
          refine (HN.out _).mono ?_
          rintro e w1 ⟨rfl, he⟩
          have hb1 := Blk.new wr #[.string ⟨n.toArray⟩, .int .i64 p] 117 |>.ext he
          have hd1 := hb1.cell (i := 0) rfl
          have hown1 := ownsMap_ext hown (Ext.trans (ext_alloc _ _) he)
          have hx1 : Ext w w1 := Ext.trans hx (Ext.trans (ext_alloc _ _) he)
          have hs1 := hx.size
          have hs2 := hx1.size
          have hb1l := hb1.lt
          clear HN he hb1
          cases hg : grpOk (n, p)
          · have HR := Lib.hid (show pgood l = 2 by rw [HS.out, if_pos hg])
            clear hg
            go_wp2_with fail
            go_ret
            exact ⟨by rw [HR.out]; rfl, hx1⟩
          · have hkey : keyOf Tryd.prog 9 (.string ⟨n.toArray⟩) = some (.string n) := keyOf_string_mk Tryd.underlying9 (by rw [strV_size]; exact hn)
            have hkl : WideAt.IsKeyLit (.string n) := klaw.key hkey
            have hBr := hown.lt
            have hlt1 : wr.heap.size < w1.heap.size := by have := hb1l; exact this
            by_cases hmem : n ∈ (l.take i).map (·.1)
            · have HR := Lib.hid (show pgood l = 70 by rw [HS.out, if_neg (by simp [hg]), if_pos hmem])
              have HA := Lib.hid (show D.atKey (.string n) (.lit (.int .i64 0)) = .lit (.int .i64 1) by rw [HM.out.2 n, if_pos hmem])
              have HK := Lib.hid hkey
              clear hg hmem hkey
              go_wp2_with (first | (at_lookup; refine wpList_lookup_own_int _ rfl (.tmp 24) (.tmp 26) 115 rfl 9 3 .i64 klaw Tryd.underlying115 Tryd.underlying3 (zeroInt _) w.heap.size i _ rfl hown1 _ _ rfl HK.out ?_; intro c1 hat1 hwc1; obtain rfl : c1 = 1 := (by have := hat1.symm.trans HA.out; injection this with this; injection this); clear hat1) | (at_mapUpdate; refine wpList_mapUpdate_own _ rfl _ _ _ 115 rfl 9 3 klaw Tryd.underlying115 _ w.heap.size i _ rfl hown1 (by unfold maxLen; omega) _ _ _ rfl rfl HK.out _ [] (plainElem_int Tryd.underlying3 (by decide)) ?_; intro w2 hown2 hgrow2; have hd2 := (World.cell?_of_block (a := ⟨wr.heap.size, 0, none⟩) (hgrow2.block _ hlt1 (by simp; omega))).trans hd1) | (at_lookup; refine wpList_lookup_own_int _ rfl (.tmp 29) (.tmp 31) 115 rfl 9 3 .i64 klaw Tryd.underlying115 Tryd.underlying3 (zeroInt _) w.heap.size (i + 1) _ rfl hown2 _ _ rfl HK.out ?_; intro c2 hat2 hwc2; obtain rfl : c2 = 2 := (by have := hat2.symm.trans (atKey_put_same HM.out.1 hkl _ _); injection this with this; injection this); clear hat2))
              go_ret
              exact ⟨by rw [HR.out]; rfl, Below.grown hx1 hgrow2 hs2 (fun j hj => by cases hj; exact Nat.le_refl _)⟩
            · have HR := Lib.hid (show pgood l = pgoodF ((l.take (i + 1)).map (·.1)) (l.drop (i + 1)) by rw [HS.out, if_neg (by simp [hg]), if_neg hmem, HT.out])
              have HA := Lib.hid (show D.atKey (.string n) (.lit (.int .i64 0)) = .lit (.int .i64 0) by rw [HM.out.2 n, if_neg hmem])
              have HK := Lib.hid hkey
              clear hg hmem hkey
              go_wp2_with (first | (at_lookup; refine wpList_lookup_own_int _ rfl (.tmp 24) (.tmp 26) 115 rfl 9 3 .i64 klaw Tryd.underlying115 Tryd.underlying3 (zeroInt _) w.heap.size i _ rfl hown1 _ _ rfl HK.out ?_; intro c1 hat1 hwc1; obtain rfl : c1 = 0 := (by have := hat1.symm.trans HA.out; injection this with this; injection this); clear hat1) | (at_mapUpdate; refine wpList_mapUpdate_own _ rfl _ _ _ 115 rfl 9 3 klaw Tryd.underlying115 _ w.heap.size i _ rfl hown1 (by unfold maxLen; omega) _ _ _ rfl rfl HK.out _ [] (plainElem_int Tryd.underlying3 (by decide)) ?_; intro w2 hown2 hgrow2; have hd2 := (World.cell?_of_block (a := ⟨wr.heap.size, 0, none⟩) (hgrow2.block _ hlt1 (by simp; omega))).trans hd1) | (at_lookup; refine wpList_lookup_own_int _ rfl (.tmp 29) (.tmp 31) 115 rfl 9 3 .i64 klaw Tryd.underlying115 Tryd.underlying3 (zeroInt _) w.heap.size (i + 1) _ rfl hown2 _ _ rfl HK.out ?_; intro c2 hat2 hwc2; obtain rfl : c2 = 1 := (by have := hat2.symm.trans (atKey_put_same HM.out.1 hkl _ _); injection this with this; injection this); clear hat2))
              go_roundw
              case rel => exact ⟨i + 1, _, by omega, by go_num, hown2, by rw [HT.out]; exact HM.out.snoc n hkl, HR.out, Below.grown hx1 hgrow2 hs2 (fun j hj => by cases hj; exact Nat.le_refl _)⟩
              case measure => simp [intOf]; omega
        · have hil : i = l.length := by omega
          have HR := Lib.hid (show pgood l = 0 by rw [hpg, hil, List.drop_length]; rfl)
          clear hpg hmet hil
          go_wp2_with fail
          go_ret
          exact ⟨by rw [HR.out]; rfl, hx⟩
end Go.Proofs.YtjajlbfokbmadaaDoor
