/-
 Layer 15: the names of all files, in order; two lists of texts compared.
-/
import Derived.Test.YtagghghoimpofaaGreatDoorDkShelf
import Derived.Test.YtagghghoimpofaaGreatDoorRkMem
import Derived.Sort.OwnSorted
import Derived.Sort.KeysCollected
import Derived.Maps.RangeWalk
namespace Go.Proofs.YtagghghoimpofaaGreatDoor
open Go Go.RowKit Mono Go.Sort
open Go.Maps (Keyed has size)
set_option linter.unusedVariables false
set_option linter.unusedSimpArgs false
set_option maxRecDepth 100000
set_option maxHeartbeats 2000000

/-- A slice of texts. -/
def Ss (W : World) (v : Value) (l : List (List UInt8)) : Prop := Sl W v (l.map strV)
theorem Ss.ext {W W' : World} {v : Value} {l : List (List UInt8)} (h : Ss W v l) (he : Ext W W') : Ss W' v l := Sl.ext h he
theorem ss_of_row {W : World} {base : Nat} {e : TypeId} {v : Value} {l : List (List UInt8)} (h : W.ownsRow base e 1 v l.length (l.map strV)) : Ss W v l := by
 have hl : (l.map strV).length = l.length := by simp
 rcases h.2 with ⟨rfl, h2⟩ | ⟨g, cap, cur, rfl, _, hg, h3, h4, h5, h6⟩
 ·have : l = [] := List.eq_nil_of_length_eq_zero h2
  subst this
  exact Sl.nil_ W
 ·refine ⟨some ⟨g, 0, none⟩, cap, by rw [hl], by rw [hl]; exact h3, h4, (fun h => by cases h), fun h0 => ⟨g, 0, rfl, (Array.getElem?_eq_some_iff.1 hg).1, fun i x hx => ?_⟩⟩
  rw [← h6] at hx
  have hi : i < l.length * 1 := by
   have := (List.getElem?_eq_some_iff.1 hx).1
   simp at this
   omega
  rw [List.getElem?_take_of_lt hi] at hx
  simp only [World.cell?, hg, Option.isSome_none, Bool.false_eq_true, if_false, Nat.zero_add]
  rw [← Array.getElem?_toList, hx]
theorem Ss.at_ {W : World} {v : Value} {l : List (List UInt8)} (h : Ss W v l) : ∃ A c, v = .slice A l.length c ∧ l.length ≤ c ∧ c ≤ maxLen ∧ (0 < l.length → ∃ b off, A = some ⟨b, off, none⟩ ∧ b < W.heap.size ∧ ∀ (i : Nat) (s : List UInt8), l[i]? = some s → W.cell? ⟨b, off + i, none⟩ = some (strV s)) := by
 obtain ⟨A, c, h1, h2, h3, _, h5⟩ := h
 simp only [List.length_map] at h1 h2 h5
 refine ⟨A, c, h1, h2, h3, fun h0 => ?_⟩
 obtain ⟨b, off, e1, e2, e3⟩ := h5 h0
 exact ⟨b, off, e1, e2, fun i s hs => e3 i (strV s) (by rw [List.getElem?_map, hs]; rfl)⟩
theorem infoStr : (Tryz.prog.info? 9).map (fun i => (i.zero, i.size, i.bytes)) = some (some (.string ⟨#[]⟩), 1, 16) := by kernel_rfl
theorem names_perm {D : DataW Unit} {ms : List FilM} {ss : List (List UInt8)} {left : Lit → Bool} (h : MapIs D ms) (hp : ms.Pairwise fun a b => a.name ≠ b.name) (hc : Collected D left ss) (hl : ∀ kl, left kl = false) : ss.Perm (ms.map fun m => m.name) := by
 refine (List.perm_ext_iff_of_nodup hc.1 ?_).2 fun x => ?_
 ·exact List.pairwise_map.2 (hp.imp fun {a b} h => h)
 ·rw [hc.2 x, hl, h.has_, List.any_eq_true, List.mem_map]
  constructor
  ·rintro ⟨⟨m, hm, hx⟩, -⟩
   exact ⟨m, hm, by simpa using hx⟩
  ·rintro ⟨m, hm, rfl⟩
   exact ⟨⟨m, hm, by simp⟩, rfl⟩
theorem names_sorted {d : Dk} (h : d.Ok) : (d.fs.map fun f => f.name).mergeSort leB = d.fs.map fun f => f.name := by
 refine List.mergeSort_of_pairwise (List.pairwise_map.2 (h.sorted.imp fun {a b} hab => ?_))
 have : Op.bytesLess a.name b.name = true := hab
 rw [Go.Proofs.bytesLess_eq] at this
 simp only [decide_eq_true_eq] at this
 simp only [leB, decide_eq_true_eq]
 exact List.le_of_lt this
theorem names_any {z bd bm pl : Nat} {W : World} {d : Dk} {ms : List FilM} (h : DkM z W bd bm pl d ms) (hok : d.Ok) :
  Calls Tryz.prog 14 #[.pointer (some ⟨bd, 0, none⟩)] W fun e w' => ∃ v, e = .returned v ∧ Ss w' v (d.fs.map fun f => f.name) ∧ Ext W w' := by
 obtain ⟨n, D, hown, hmap⟩ := h.map
 obtain ⟨i0, hi, hi2⟩ : ∃ i, Tryz.prog.info? 9 = some i ∧ (i.zero, i.size, i.bytes) = (some (.string ⟨#[]⟩), 1, 16) := by
  have := infoStr
  cases h : Tryz.prog.info? 9 with
  | none => rw [h] at this; cases this
  | some i => rw [h] at this; exact ⟨i, rfl, by simpa using this⟩
 obtain ⟨hz0, hz1, hz2⟩ : i0.zero = some (.string ⟨#[]⟩) ∧ i0.size = 1 ∧ i0.bytes = 16 := by simpa using hi2
 have k1 := h.str.blk.cell (i := 1) rfl
 have HNA := Lib.hid (names_apart h hok)
 have HFS := Lib.hid h.fs
 have HOK := Lib.hid hok
 have HMAP := Lib.hid hmap
 have HI := Lib.hid hi
 have HZ0 := Lib.hid hz0
 have HZ1 := Lib.hid hz1
 have HZ2 := Lib.hid hz2
 have hfew : size D ≤ 64 := by rw [hmap.size_, show ms.length = d.fs.length by rw [← h.fs]; simp]; exact hok.few
 have hbm : bm < W.heap.size := hown.lt
 clear hmap h hi2 hi hz0 hz1 hz2 hok
 go_enter Tryz.func14, Tryz.ntmps14
 go_wp2_with (first
  | (at_range; refine wpList_range_own _ rfl _ 39 rfl 9 102 keyS Tryz.underlying39 ptrR bm n D rfl hown ?_; intro w0 hrg0 hg0 hs0)
  | go_in)
 go_frame
 clear hs0 k1
 go_loopw [2] (fun v wr => ∃ (left : Lit → Bool) (cnt : Nat) (ss : List (List UInt8)), wr.ranges Tryz.prog 9 ptrR bm W.heap.size n D left cnt ∧ ss.length + cnt ≤ size D ∧
   wr.ownsRow W.heap.size 9 1 v ss.length (ss.map encStr) ∧ Collected D left ss ∧ Ext W wr) (fun _ wr => wr.rangeLeft bm W.heap.size)
 case atStart =>
  exact ⟨_, _, [], hrg0, by simp, World.ownsRow_nil _ _ _ _, Collected.start D, ⟨hg0.os, hg0.tape, hg0.output, hg0.size, fun k hk => hg0.block k hk (by simp)⟩⟩
 case round =>
  obtain ⟨left, cnt, ss, hrg, hcs, hrow, hC, hx⟩ := hrel
  have HRG := Lib.hid hrg
  have HX := Lib.hid hx
  have HC := Lib.hid hC
  clear hx hC
  go_wp2_with (first
   | (at_next; refine wpList_next_ranges _ rfl _ rfl 9 keyS ptrR encStr ptrM (fun key kl hk => by obtain ⟨x, hx, _⟩ := keyS_shape hk; exact ⟨x, hx⟩) (fun v y hv => ptrR_shape hv) bm W.heap.size n D left cnt rfl hrg ?_ ?_)
   | go_in)
  ·intro hc0 hl0
   have hperm := names_perm HMAP.out HNA.out HC.out hl0
   have hfsn : (ms.map fun m => m.name) = d.fs.map fun f => f.name := by rw [← HFS.out]; simp [FilM.fil]
   rw [hfsn] at hperm
   have hms := mergeSort_of_perm hperm
   rw [names_sorted HOK.out] at hms
   have HMS := Lib.hid hms
   have hlen : (d.fs.map fun f => f.name).length = ss.length := hperm.length_eq.symm
   have HLEN := Lib.hid hlen
   clear hms hperm hfsn hlen
   rcases hrow.2 with ⟨rfl, hn⟩ | ⟨g, cap, cur, rfl, hbase, hb, h1, h2, h3, h4⟩
   ·have hse : ss = [] := List.eq_nil_of_length_eq_zero hn
    subst hse
    have HS := Lib.hid (Tryz.sort_Strings_none none 0 wr)
    clear hn hrow
    go_wp2_with fail
    refine HS.out.mono ?_
    rintro e w' ⟨rfl, rfl⟩
    go_wp2_with fail
    go_ret
    refine ⟨_, rfl, ?_, HX.out⟩
    have : (d.fs.map fun f => f.name) = [] := List.eq_nil_of_length_eq_zero (by rw [HLEN.out]; rfl)
    rw [this]
    exact Sl.nil_ _
   ·have hH : Holds encStr wr g 0 ss.toArray := holds_of_block hb (by simpa using h4)
    have hgl : g < wr.heap.size := (Array.getElem?_eq_some_iff.1 hb).1
    have HS := Lib.hid (Tryz.sort_Strings g 0 cap ss wr hH hgl (by omega))
    have HR := Lib.hid (fun (nn : Nat) (os : Array Obj) => ownsRow_sorted (n := nn) (os := os) (ts := ss.mergeSort fun x y => decide (x ≤ y)) (ss := ss) (by simp) hbase hb h1 h2 h3)
    clear hH hgl h4 hrow hb
    go_wp2_with fail
    refine HS.out.mono ?_
    rintro e w' ⟨rfl, nn, os, rfl⟩
    go_wp2_with fail
    go_ret
    refine ⟨_, rfl, ?_, ?_⟩
    ·have hr := HR.out nn os
     have he : (ss.mergeSort fun x y => decide (x ≤ y)) = d.fs.map fun f => f.name := HMS.out
     rw [he] at hr
     have hl : ss.length = (d.fs.map fun f => f.name).length := HLEN.out.symm
     rw [hl] at hr
     refine ss_of_row (base := W.heap.size) (e := 9) ?_
     rw [he, hl]
     exact hr
    ·have hg := grownBy_sorted (w := wr) (g := g) (n := nn) (os := os) (ss.mergeSort fun x y => decide (x ≤ y)).toArray
     exact ⟨hg.os.trans HX.out.os, hg.tape.trans HX.out.tape, hg.output.trans HX.out.output, Nat.le_trans HX.out.size hg.size, fun k hk => (hg.block k (Nat.lt_of_lt_of_le hk HX.out.size) (by simp; omega)).trans (HX.out.block k hk)⟩
  ·intro x c kl yd yp w2 cnt2 hkey hlk hv hat hrg2 hlt hg2 hs2 hen
   obtain ⟨x', ex, rfl, _⟩ := keyS_shape hkey
   obtain rfl : x = x' := encStr_inj ex
   have hrow2 := hrow.kept hg2 (Or.inr (row_ne_iter hrow HRG.out).symm)
   clear hs2
   have hszz := HX.out.size
   clear ex hkey
   go_wp2_with (first
    | (at_builtin; refine wpList_append_own _ rfl (.tmp 15) (.tmp 17) 53 rfl W.heap.size 9 i0 (.string ⟨#[]⟩) 1 16 Tryz.underlying53 HI.out HZ0.out HZ1.out HZ2.out rfl (by decide) _ _ _ rfl (hrow2.alloc _) ⟨w2.heap.size, 0, none⟩ 1 1 [encStr x] rfl rfl (cell_one_new _ _ _) (by simp [Value.oneCell', encStr]) (by unfold maxLen; omega) (by omega) (by have := hg2.size; simp; omega) ?_; intro v' w3 hown' hg3 hnil3; go_frame)
    | go_in)
   have hrg3 := (hrg2.alloc _).kept hg3 (row_ne_low hrow2 hbm) (row_ne_iter hrow2 hrg2)
   go_roundw
   case rel =>
    refine ⟨_, cnt2, ss ++ [x], hrg3, by simp; omega, by simpa using hown', HC.out.step hlk hat, ?_⟩
    have hlow := fun j (hj : _ = some j) => (hrow2.lt j hj).1
    have e1 : Ext W w2 := ⟨hg2.os.trans HX.out.os, hg2.tape.trans HX.out.tape, hg2.output.trans HX.out.output, Nat.le_trans HX.out.size hg2.size, fun k hk => (hg2.block k (Nat.lt_of_lt_of_le hk HX.out.size) (by simp; omega)).trans (HX.out.block k hk)⟩
    have e2 := e1.trans (ext_alloc w2 (.cells #[encStr x] 9))
    refine ⟨hg3.os.trans e2.os, hg3.tape.trans e2.tape, hg3.output.trans e2.output, Nat.le_trans e2.size hg3.size, fun k hk => (hg3.block k (Nat.lt_of_lt_of_le hk e2.size) (fun e => ?_)).trans (e2.block k hk)⟩
    have := hlow k e.symm
    omega
   case measure => rw [hrg3.left_eq, HRG.out.left_eq]; exact hlt
end Go.Proofs.YtagghghoimpofaaGreatDoor
