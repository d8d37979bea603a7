/-
 The walks of layer 3, the second part: Open.
-/
import Derived.Test.YtagghghoimpofaaGreatDoorFramePlain
namespace Go.Proofs.YtagghghoimpofaaGreatDoor
open Go.RowKit Mono Num Crc
set_option linter.unusedSimpArgs false
set_option linter.unusedVariables false
def openV (r : Value) (n e : Nat) : Value := .tuple #[r, .int .i64 (n : Int), .int .i64 (e : Int)]

set_option maxHeartbeats 1600000 in
theorem fOpen_any (v : Value) (l : List UInt8) (w : World) (hv : Bs w v l) (hl : l.length ≤ 140737488355000) :
  Calls Tryz.prog 107 #[v] w fun e w' => ∃ r, e = .returned (openV r (fopen l).2.1 (fopen l).2.2) ∧ OwB w' w.heap.size r (fopen l).1 ∧ Ext w w' := by
 obtain ⟨A, c, rfl, h1, h2, _, h4⟩ := hv.open_
 unfold maxLen at h2
 unfold openV
 by_cases h0 : l.length = 0
 ·have HW := Lib.hid (show fopen l = ([], 0, 10) by unfold fopen; rw [if_pos h0])
  go_enter Tryz.func107, Tryz.ntmps107
  go_wp2_with fail
  go_ret3
  exact ⟨_, by rw [HW.out]; rfl, by rw [HW.out]; exact OwB.nil_ _ _, Ext.refl _⟩
 ·obtain ⟨b, off, rfl, hb, hc⟩ := h4 (by omega)
  have hc0 : w.cell? ⟨b, off, none⟩ = some (.int .u8 ((l.getD 0 0).toNat : Int)) := by
   have := hc 0 (l.getD 0 0) (by rw [List.getD_eq_getElem?_getD, List.getElem?_eq_getElem (show 0 < l.length by omega)]; rfl)
   simpa using this
  clear hc h4
  have hpos : 0 < l.length := by omega
  by_cases hm : l.getD 0 0 = 181
  ·have hopen : fopen l = fopen2 l (nget (l.drop 1)) := by unfold fopen; rw [if_neg h0, if_neg (fun h => h hm)]
   rw [hm] at hc0
   have hc0' : w.cell? ⟨b, off, none⟩ = some (.int .u8 181) := hc0
   clear hc0 hm h0
   by_cases hck : 1 = c
   ·subst hck
    have hd := hv.from_ (k := 1) (by omega)
    rw [if_pos rfl, show l.length - 1 = 0 by omega, Nat.sub_self] at hd
    have HG := Lib.hid (numGet_any _ _ _ hd)
    clear hd
    go_enter Tryz.func107, Tryz.ntmps107
    go_wp2_with fail
    refine HG.out.mono ?_
    rintro e w1 ⟨rfl, rfl⟩
    clear HG
    have hroom := nget_room' (l.drop 1)
    rw [List.length_drop] at hroom
    obtain ⟨n, k, f, hg⟩ : ∃ n k f, nget (l.drop 1) = (n, k, f) := ⟨_, _, _, rfl⟩
    rw [hg] at hroom ⊢
    dsimp only at hroom ⊢
    have HO := Lib.hid hopen
    clear hopen
    by_cases hf : f = 0
    ·subst hf
     obtain ⟨hk1, hk2, hn1⟩ := hroom rfl
     omega
    ·have HW := Lib.hid (show fopen l = ([], 0, f) by rw [HO.out, hg]; simp [fopen2, hf])
     clear hg
     go_wp2_with fail
     go_ret3
     exact ⟨_, by rw [HW.out]; rfl, by rw [HW.out]; exact OwB.nil_ _ _, Ext.refl _⟩
   ·have hd := hv.from_ (k := 1) (by omega)
    rw [if_neg (fun h => hck h.symm)] at hd
    have HG := Lib.hid (numGet_any _ _ _ hd)
    clear hd
    go_enter Tryz.func107, Tryz.ntmps107
    go_wp2_with fail
    refine HG.out.mono ?_
    rintro e w1 ⟨rfl, rfl⟩
    clear HG
    have hroom := nget_room' (l.drop 1)
    rw [List.length_drop] at hroom
    obtain ⟨n, k, f, hg⟩ : ∃ n k f, nget (l.drop 1) = (n, k, f) := ⟨_, _, _, rfl⟩
    rw [hg] at hroom ⊢
    dsimp only at hroom ⊢
    have HO := Lib.hid hopen
    clear hopen
    by_cases hf : f = 0
    ·subst hf
     obtain ⟨hk1, hk2, hn1⟩ := hroom rfl
     by_cases hn : 1048576 < n
     ·have HW := Lib.hid (show fopen l = ([], 0, 3) by rw [HO.out, hg]; simp [fopen2, hn])
      clear hg
      go_wp2_with fail
      go_ret3
      exact ⟨_, by rw [HW.out]; rfl, by rw [HW.out]; exact OwB.nil_ _ _, Ext.refl _⟩
     ·have hn' : n ≤ 1048576 := by omega
      by_cases ha : l.length < 1 + k + n + 4
      ·have HW := Lib.hid (show fopen l = ([], 0, 10) by rw [HO.out, hg]; simp [fopen2, hn, ha])
       clear hg
       go_wp2_with fail
       go_ret3
       exact ⟨_, by rw [HW.out]; rfl, by rw [HW.out]; exact OwB.nil_ _ _, Ext.refl _⟩
      ·have hat : 1 + k + n + 4 ≤ l.length := by omega
       have hr := hv.upto (k := 1 + k + n + 4) hat
       have HO2 := Lib.hid (show fopen l = if right (l.take (1 + k + n + 4)) = false then ([], 0, 31) else ((l.drop (1 + k)).take n, 1 + k + n + 4, 0) by rw [HO.out, hg]; simp [fopen2, hn, ha])
       have HR := Lib.hid (crcRight_any _ _ _ hr)
       have hd2 := (hv.from_ (k := 1 + k) (by omega))
       rw [if_neg (show ¬ c = 1 + k by omega)] at hd2
       simp only [Option.map_some, add_at] at hd2
       have HD := Lib.hid (show Bs w (.slice (some ⟨b, off + (1 + k), none⟩) (1 + k + n - (1 + k)) (c - (1 + k))) ((l.drop (1 + k)).take n) by rw [show 1 + k + n - (1 + k) = n by omega]; exact hd2.upto (by omega))
       clear hg hr hd2 HO
       go_wp2_with fail
       refine HR.out.mono ?_
       rintro e w1 ⟨rfl, he⟩
       replace he : Ext w w1 := (by rw [he]; exact Ext.refl _)
       have hs := he.size
       cases hrt : right (l.take (1 + k + n + 4))
       ·have HW := Lib.hid (show fopen l = ([], 0, 31) by rw [HO2.out, hrt]; rfl)
        clear hrt
        go_wp2_with fail
        go_ret3
        exact ⟨_, by rw [HW.out]; rfl, by rw [HW.out]; exact OwB.nil_ _ _, he⟩
       ·have HW := Lib.hid (show fopen l = ((l.drop (1 + k)).take n, 1 + k + n + 4, 0) by rw [HO2.out, hrt]; rfl)
        have hlen : ((l.drop (1 + k)).take n).length ≤ n := by rw [List.length_take]; omega
        clear hrt
        go_wp2_with (at_builtin; refine wpList_append_bs _ rfl (.tmp 45) (.tmp 51) rfl (OwB.empty_ w1 (Nat.le_refl _)) ((HD.out.ext he).ext (ext_alloc _ _)) rfl rfl (by rw [List.length_nil]; omega) (by simp) ?_; intro v1 w2 hown1 hg1 hat1; have hb1 : Below w1.heap.size w1 w2 := Below.growB (ext_alloc w1 _) (OwB.empty_ w1 (Nat.le_refl _)) hg1 (Nat.le_refl _) (by simp))
        rw [List.nil_append] at hown1
        go_ret3
        exact ⟨v1, by rw [HW.out]; simp, by rw [HW.out]; exact OwB.mono hown1 hs, Ext.trans he hb1⟩
    ·have HW := Lib.hid (show fopen l = ([], 0, f) by rw [HO.out, hg]; simp [fopen2, hf])
     clear hg
     go_wp2_with fail
     go_ret3
     exact ⟨_, by rw [HW.out]; rfl, by rw [HW.out]; exact OwB.nil_ _ _, Ext.refl _⟩
  ·have HW := Lib.hid (show fopen l = ([], 0, 30) by unfold fopen; rw [if_neg h0, if_pos hm])
   have hne : (((l.getD 0 0).toNat : Int) != 181) = true := by
    simp only [bne_iff_ne, ne_eq]
    intro h
    exact hm (UInt8.toNat_inj.1 (by simpa using (by omega : (l.getD 0 0).toNat = 181)))
   generalize l.getD 0 0 = x at *
   clear h0
   go_enter Tryz.func107, Tryz.ntmps107
   go_wp2_with fail
   go_ret3
   exact ⟨_, by rw [HW.out]; rfl, by rw [HW.out]; exact OwB.nil_ _ _, Ext.refl _⟩

set_option maxHeartbeats 1600000 in
theorem rOpen_any (v : Value) (l : List UInt8) (w : World) (hv : Bs w v l) (hl : l.length ≤ 140737488355000) :
  Calls Tryz.prog 87 #[v] w fun e w' => ∃ r, e = .returned (openV r (fopen l).2.1 (fopen l).2.2) ∧ OwB w' w.heap.size r (fopen l).1 ∧ Ext w w' := by
 obtain ⟨A, c, rfl, h1, h2, _, h4⟩ := hv.open_
 unfold maxLen at h2
 unfold openV
 by_cases h0 : l.length = 0
 ·have HW := Lib.hid (show fopen l = ([], 0, 10) by unfold fopen; rw [if_pos h0])
  go_enter Tryz.func87, Tryz.ntmps87
  go_wp2_with fail
  go_ret3
  exact ⟨_, by rw [HW.out]; rfl, by rw [HW.out]; exact OwB.nil_ _ _, Ext.refl _⟩
 ·obtain ⟨b, off, rfl, hb, hc⟩ := h4 (by omega)
  have hc0 : w.cell? ⟨b, off, none⟩ = some (.int .u8 ((l.getD 0 0).toNat : Int)) := by
   have := hc 0 (l.getD 0 0) (by rw [List.getD_eq_getElem?_getD, List.getElem?_eq_getElem (show 0 < l.length by omega)]; rfl)
   simpa using this
  clear hc h4
  have hpos : 0 < l.length := by omega
  by_cases hm : l.getD 0 0 = 181
  ·have hopen : fopen l = fopen2 l (nget (l.drop 1)) := by unfold fopen; rw [if_neg h0, if_neg (fun h => h hm)]
   rw [hm] at hc0
   have hc0' : w.cell? ⟨b, off, none⟩ = some (.int .u8 181) := hc0
   clear hc0 hm h0
   by_cases hck : 1 = c
   ·subst hck
    have hd := hv.from_ (k := 1) (by omega)
    rw [if_pos rfl, show l.length - 1 = 0 by omega, Nat.sub_self] at hd
    have HG := Lib.hid (refGet_any _ _ _ hd)
    clear hd
    go_enter Tryz.func87, Tryz.ntmps87
    go_wp2_with fail
    refine HG.out.mono ?_
    rintro e w1 ⟨rfl, rfl⟩
    clear HG
    have hroom := nget_room' (l.drop 1)
    rw [List.length_drop] at hroom
    obtain ⟨n, k, f, hg⟩ : ∃ n k f, nget (l.drop 1) = (n, k, f) := ⟨_, _, _, rfl⟩
    rw [hg] at hroom ⊢
    dsimp only at hroom ⊢
    have HO := Lib.hid hopen
    clear hopen
    by_cases hf : f = 0
    ·subst hf
     obtain ⟨hk1, hk2, hn1⟩ := hroom rfl
     omega
    ·have HW := Lib.hid (show fopen l = ([], 0, f) by rw [HO.out, hg]; simp [fopen2, hf])
     clear hg
     go_wp2_with fail
     go_ret3
     exact ⟨_, by rw [HW.out]; rfl, by rw [HW.out]; exact OwB.nil_ _ _, Ext.refl _⟩
   ·have hd := hv.from_ (k := 1) (by omega)
    rw [if_neg (fun h => hck h.symm)] at hd
    have HG := Lib.hid (refGet_any _ _ _ hd)
    clear hd
    go_enter Tryz.func87, Tryz.ntmps87
    go_wp2_with fail
    refine HG.out.mono ?_
    rintro e w1 ⟨rfl, rfl⟩
    clear HG
    have hroom := nget_room' (l.drop 1)
    rw [List.length_drop] at hroom
    obtain ⟨n, k, f, hg⟩ : ∃ n k f, nget (l.drop 1) = (n, k, f) := ⟨_, _, _, rfl⟩
    rw [hg] at hroom ⊢
    dsimp only at hroom ⊢
    have HO := Lib.hid hopen
    clear hopen
    by_cases hf : f = 0
    ·subst hf
     obtain ⟨hk1, hk2, hn1⟩ := hroom rfl
     by_cases hn : 1048576 < n
     ·have HW := Lib.hid (show fopen l = ([], 0, 3) by rw [HO.out, hg]; simp [fopen2, hn])
      clear hg
      go_wp2_with fail
      go_ret3
      exact ⟨_, by rw [HW.out]; rfl, by rw [HW.out]; exact OwB.nil_ _ _, Ext.refl _⟩
     ·have hn' : n ≤ 1048576 := by omega
      by_cases ha : l.length < 1 + k + n + 4
      ·have HW := Lib.hid (show fopen l = ([], 0, 10) by rw [HO.out, hg]; simp [fopen2, hn, ha])
       clear hg
       go_wp2_with fail
       go_ret3
       exact ⟨_, by rw [HW.out]; rfl, by rw [HW.out]; exact OwB.nil_ _ _, Ext.refl _⟩
      ·have hat : 1 + k + n + 4 ≤ l.length := by omega
       have hr := hv.upto (k := 1 + k + n + 4) hat
       have HO2 := Lib.hid (show fopen l = if right (l.take (1 + k + n + 4)) = false then ([], 0, 31) else ((l.drop (1 + k)).take n, 1 + k + n + 4, 0) by rw [HO.out, hg]; simp [fopen2, hn, ha])
       have HR := Lib.hid (refRight_any _ _ _ hr (by simp; omega))
       have hd2 := (hv.from_ (k := 1 + k) (by omega))
       rw [if_neg (show ¬ c = 1 + k by omega)] at hd2
       simp only [Option.map_some, add_at] at hd2
       have HD := Lib.hid (show Bs w (.slice (some ⟨b, off + (1 + k), none⟩) (1 + k + n - (1 + k)) (c - (1 + k))) ((l.drop (1 + k)).take n) by rw [show 1 + k + n - (1 + k) = n by omega]; exact hd2.upto (by omega))
       clear hg hr hd2 HO
       go_wp2_with fail
       refine HR.out.mono ?_
       rintro e w1 ⟨rfl, he⟩
       replace he : Ext w w1 := he
       have hs := he.size
       cases hrt : right (l.take (1 + k + n + 4))
       ·have HW := Lib.hid (show fopen l = ([], 0, 31) by rw [HO2.out, hrt]; rfl)
        clear hrt
        go_wp2_with fail
        go_ret3
        exact ⟨_, by rw [HW.out]; rfl, by rw [HW.out]; exact OwB.nil_ _ _, he⟩
       ·have HW := Lib.hid (show fopen l = ((l.drop (1 + k)).take n, 1 + k + n + 4, 0) by rw [HO2.out, hrt]; rfl)
        have hlen : ((l.drop (1 + k)).take n).length ≤ n := by rw [List.length_take]; omega
        clear hrt
        go_wp2_with (at_builtin; refine wpList_append_bs _ rfl (.tmp 42) (.tmp 50) rfl (OwB.empty_ w1 (Nat.le_refl _)) ((HD.out.ext he).ext (ext_alloc _ _)) rfl rfl (by rw [List.length_nil]; omega) (by simp) ?_; intro v1 w2 hown1 hg1 hat1; have hb1 : Below w1.heap.size w1 w2 := Below.growB (ext_alloc w1 _) (OwB.empty_ w1 (Nat.le_refl _)) hg1 (Nat.le_refl _) (by simp))
        rw [List.nil_append] at hown1
        go_ret3
        exact ⟨v1, by rw [HW.out]; simp, by rw [HW.out]; exact OwB.mono hown1 hs, Ext.trans he hb1⟩
    ·have HW := Lib.hid (show fopen l = ([], 0, f) by rw [HO.out, hg]; simp [fopen2, hf])
     clear hg
     go_wp2_with fail
     go_ret3
     exact ⟨_, by rw [HW.out]; rfl, by rw [HW.out]; exact OwB.nil_ _ _, Ext.refl _⟩
  ·have HW := Lib.hid (show fopen l = ([], 0, 30) by unfold fopen; rw [if_neg h0, if_pos hm])
   have hne : (((l.getD 0 0).toNat : Int) != 181) = true := by
    simp only [bne_iff_ne, ne_eq]
    intro h
    exact hm (UInt8.toNat_inj.1 (by simpa using (by omega : (l.getD 0 0).toNat = 181)))
   generalize l.getD 0 0 = x at *
   clear h0
   go_enter Tryz.func87, Tryz.ntmps87
   go_wp2_with fail
   go_ret3
   exact ⟨_, by rw [HW.out]; rfl, by rw [HW.out]; exact OwB.nil_ _ _, Ext.refl _⟩
end Go.Proofs.YtagghghoimpofaaGreatDoor
