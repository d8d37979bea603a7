/-
  The walk of change.Get, the first part: what it reads.
-/
import Derived.Test.YtacabcpjaadijaaDoorChRead
import Derived.Test.YtacabcpjaadijaaDoorMono
import Derived.Test.YtacabcpjaadijaaDoorCapWs
import Derived.RegionTactic
import Derived.ChangeAlike
namespace Go.Proofs.YtacabcpjaadijaaDoor
open Go Go.RowKit Mono Num
set_option linter.unusedVariables false
set_option linter.unusedSimpArgs false
set_option maxRecDepth 10000

def rdStamp (b : List UInt8) (s : Nat × Bool) : (Int × Int) × Nat × Bool := ((sget (b.drop s.1)).1, s.1 + (sget (b.drop s.1)).2.1, s.2 || !((sget (b.drop s.1)).2.2 == 0))
def rdVec (b : List UInt8) (s : Nat × Bool) : (Int × Int) × Nat × Bool := ((vget (b.drop s.1)).1, s.1 + (vget (b.drop s.1)).2.1, s.2 || !((vget (b.drop s.1)).2.2 == 0))
/-- The writes, as many as are told, until a part is none. -/
def rdAll (b : List UInt8) : Nat → Nat × Bool → List Wr × Nat × Bool
  | 0, s => ([], s)
  | n + 1, s => if s.2 = true then ([], s) else ((rdWrite b s).1 :: (rdAll b n (rdWrite b s).2).1, (rdAll b n (rdWrite b s).2).2)
theorem sget_in (l : List UInt8) : (sget l).2.1 ≤ l.length := by
  have := nget_in l
  unfold sget
  split
  · simp
  · split
    · exact this.1
    · split
      · exact this.1
      · simp
theorem vget_in (l : List UInt8) : (vget l).2.1 ≤ l.length := by
  have h1 := nget_in l
  have h2 := nget_in (l.drop (nget l).2.1)
  rw [List.length_drop] at h2
  unfold vget vget2
  split
  · split
    · split
      · simp only; omega
      · simp
    · simp
  · simp
theorem rdStamp_in (b : List UInt8) (s : Nat × Bool) (h : s.1 ≤ b.length) : (rdStamp b s).2.1 ≤ b.length := by
  have := sget_in (b.drop s.1)
  rw [List.length_drop] at this
  unfold rdStamp
  dsimp only
  omega
theorem rdVec_in (b : List UInt8) (s : Nat × Bool) (h : s.1 ≤ b.length) : (rdVec b s).2.1 ≤ b.length := by
  have := vget_in (b.drop s.1)
  rw [List.length_drop] at this
  unfold rdVec
  dsimp only
  omega

def wcells (l : List Wr) : List Value := l.flatMap fun x => [strV x.key, .int .i64 x.group, .bool x.gone, strV x.value]
theorem wcells_snoc (l : List Wr) (x : Wr) : wcells (l ++ [x]) = wcells l ++ [strV x.key, .int .i64 x.group, .bool x.gone, strV x.value] := by unfold wcells; simp
theorem wcells_get : ∀ (l : List Wr) (i : Nat) (x : Wr), l[i]? = some x → (wcells l)[i * 4]? = some (strV x.key) ∧ (wcells l)[i * 4 + 1]? = some (.int .i64 x.group) ∧ (wcells l)[i * 4 + 2]? = some (.bool x.gone) ∧ (wcells l)[i * 4 + 3]? = some (strV x.value)
  | y :: l, 0, x, h => by
    obtain rfl : y = x := by simpa using h
    simp [wcells]
  | y :: l, i + 1, x, h => by
    have h1 := wcells_get l i x (by simpa using h)
    have h2 : wcells (y :: l) = [strV y.key, .int .i64 y.group, .bool y.gone, strV y.value] ++ wcells l := by unfold wcells; simp
    have e : ∀ j, (wcells (y :: l))[(i + 1) * 4 + j]? = (wcells l)[i * 4 + j]? := fun j => by
      rw [h2, List.getElem?_append_right (by simp; omega)]
      congr 1
      simp
      omega
    exact ⟨(e 0).trans h1.1, (e 1).trans h1.2.1, (e 2).trans h1.2.2.1, (e 3).trans h1.2.2.2⟩
theorem ws_of_row {w : World} {base : Nat} {v : Value} {l : List Wr} (h : w.ownsRow base 62 4 v l.length (wcells l)) (hin : ∀ x ∈ l, x.fits) : Ws w v l := by
  refine ⟨?_, hin⟩
  rcases h.2 with ⟨rfl, hn⟩ | ⟨g, cap, cur, rfl, hb, hg, hnc, hcm, _⟩
  · obtain rfl := List.eq_nil_of_length_eq_zero hn
    exact (Ws.nil_ w).1
  · refine ⟨some ⟨g, 0, none⟩, cap, rfl, hnc, hcm, by simp, fun _ => ⟨g, 0, rfl, (Array.getElem?_eq_some_iff.1 hg).1, fun i x hx => ?_⟩⟩
    have hi := (List.getElem?_eq_some_iff.1 hx).1
    obtain ⟨c1, c2, c3, c4⟩ := wcells_get l i x hx
    rw [Nat.zero_add, World.ownsRow.cellAt h (i * 4) (by omega), World.ownsRow.cellAt h (i * 4 + 1) (by omega), World.ownsRow.cellAt h (i * 4 + 2) (by omega), World.ownsRow.cellAt h (i * 4 + 3) (by omega)]
    exact ⟨c1, c2, c3, c4⟩

/-- 's[k:]' of bytes, its value under one name. -/
theorem slice_from_run (A : Option Addr) (n c k : Nat) (hk : k ≤ n) : ∃ SL : Value, (∀ w', (Instr.sliceAt 75 (.slice A n c) (some (.int .i64 (k : Int))) none none).run Tryd.prog w' = .ok SL w') ∧
    (∀ w', (Instr.slice 75 (.slice A n c) (some (.int .i64 (k : Int))) none none).run Tryd.prog w' = .ok SL w') ∧ ∀ w l, Bs w (.slice A n c) l → Bs w SL (l.drop k) := by
  have h1 : (k : Int) ≤ (n : Int) := by omega
  have h0 : (0 : Int) ≤ (k : Int) := by omega
  have hu := Tryd.underlying75
  refine ⟨.slice (if c = k then A else A.map (·.add k)) (n - k) (c - k), fun w' => ?_, fun w' => ?_, fun w l h => h.from_ hk⟩
  · simp [h0, h1, go_sem]
  · simp [h0, h1, go_sem]
def set7 (w : World) (b : Nat) (x0 x1 x2 x3 x4 x5 x6 : Value) : World := ((((((w.setCell ⟨b, 0, none⟩ x0).setCell ⟨b, 1, none⟩ x1).setCell ⟨b, 2, none⟩ x2).setCell ⟨b, 3, none⟩ x3).setCell ⟨b, 4, none⟩ x4).setCell ⟨b, 5, none⟩ x5).setCell ⟨b, 6, none⟩ x6
theorem set7_blk {w : World} {b : Nat} {y0 y1 y2 y3 y4 y5 y6 : Value} (h : Blk w b [y0, y1, y2, y3, y4, y5, y6]) (x0 x1 x2 x3 x4 x5 x6 : Value) : Blk (set7 w b x0 x1 x2 x3 x4 x5 x6) b [x0, x1, x2, x3, x4, x5, x6] :=
  ((((((h.set 0 x0).set 1 x1).set 2 x2).set 3 x3).set 4 x4).set 5 x5).set 6 x6
theorem set7_ext {w0 w : World} {b : Nat} (h : Ext w0 w) (hb : w0.heap.size ≤ b) (x0 x1 x2 x3 x4 x5 x6 : Value) : Ext w0 (set7 w b x0 x1 x2 x3 x4 x5 x6) :=
  ((((((h.setCell (p := ⟨b, 0, none⟩) hb x0).setCell (p := ⟨b, 1, none⟩) hb x1).setCell (p := ⟨b, 2, none⟩) hb x2).setCell (p := ⟨b, 3, none⟩) hb x3).setCell (p := ⟨b, 4, none⟩) hb x4).setCell (p := ⟨b, 5, none⟩) hb x5).setCell (p := ⟨b, 6, none⟩) hb x6
theorem set7_gb (w : World) (b : Nat) (x0 x1 x2 x3 x4 x5 x6 : Value) : w.grownBy (set7 w b x0 x1 x2 x3 x4 x5 x6) (some b) :=
  gb_trans (gb_trans (gb_trans (gb_trans (gb_trans (gb_trans (gb_set _ _ _ _) (gb_set _ _ _ _)) (gb_set _ _ _ _)) (gb_set _ _ _ _)) (gb_set _ _ _ _)) (gb_set _ _ _ _)) (gb_set _ _ _ _)
theorem set7_blk' {w : World} {b b' : Nat} {L : List Value} (h : Blk w b' L) (hn : b' ≠ b) (x0 x1 x2 x3 x4 x5 x6 : Value) : Blk (set7 w b x0 x1 x2 x3 x4 x5 x6) b' L :=
  ((((((h.apart (a := ⟨b, 0, none⟩) x0 hn).apart (a := ⟨b, 1, none⟩) x1 hn).apart (a := ⟨b, 2, none⟩) x2 hn).apart (a := ⟨b, 3, none⟩) x3 hn).apart (a := ⟨b, 4, none⟩) x4 hn).apart (a := ⟨b, 5, none⟩) x5 hn).apart (a := ⟨b, 6, none⟩) x6 hn
theorem rdAll_step (b : List UInt8) (n : Nat) (s : Nat × Bool) (h : s.2 = false) : rdAll b (n + 1) s = ((rdWrite b s).1 :: (rdAll b n (rdWrite b s).2).1, (rdAll b n (rdWrite b s).2).2) := by rw [rdAll, if_neg (by simp [h])]
theorem rdAll_bad (b : List UInt8) (n : Nat) (s : Nat × Bool) (h : s.2 = true) : rdAll b n s = ([], s) := by cases n <;> simp [rdAll, h]
theorem rdWrite_in (b : List UInt8) (s : Nat × Bool) (h : s.1 ≤ b.length) (hb : b.length ≤ 100000) : (rdWrite b s).2.1 ≤ b.length ∧ (rdWrite b s).1.fits := by
  have h1 := rdText_in b 32 s h
  have h2 := rdNum_in b _ h1.1
  have h3 := rdNum_in b _ h2.1
  have h4 := rdText_in b 64 _ h3.1
  unfold rdWrite Wr.fits In64 maxLen
  dsimp only
  split
  · exact ⟨h4.1, by dsimp only; omega⟩
  · split
    · exact ⟨h3.1, by dsimp only [List.length_nil]; omega⟩
    · exact ⟨h3.1, by dsimp only [List.length_nil]; omega⟩

theorem four_new (w : World) (a b c d : Value) (T : TypeId) : ∀ j u, ([a, b, c, d] : List Value)[j]? = some u → (w.alloc (.cells #[a, b, c, d] T)).cell? ((⟨w.heap.size, 0, none⟩ : Addr).add j) = some u := by
  intro j u h
  rw [add_at, Nat.zero_add]
  exact (Blk.new w #[a, b, c, d] T).cell (i := j) h
theorem four_one (k : List UInt8) (g : Int) (d : Bool) (z : List UInt8) : ∀ u ∈ ([strV k, .int .i64 g, .bool d, strV z] : List Value), u.oneCell' = true := by
  intro u h
  simp only [List.mem_cons, List.not_mem_nil, or_false] at h
  rcases h with rfl | rfl | rfl | rfl <;> rfl
theorem infoWr : (Tryd.prog.info? 62).map (fun i => (i.zero, i.size, i.bytes)) = some (some (.agg #[.string ⟨#[]⟩, .int .i64 0, .bool false, .string ⟨#[]⟩]), 4, 48) := by kernel_rfl
/-- What stands while the writes are read: the reader, the change, the result's variable, the row of writes. -/
structure GSt (w wr : World) (rb cb nb base : Nat) (v : Value) (h6 : List Value) (vs : Value) (acc : List Wr) (a : Nat) (bad : Bool) : Prop where
  rdr : Rdr w wr rb v a bad
  chg : Blk wr cb (h6 ++ [vs])
  res : Blk wr nb [.int .i64 0, .int .i64 0, .int .i64 0, .int .i64 0, .int .i64 0, .int .i64 0, .slice none 0 0]
  row : wr.ownsRow base 62 4 vs acc.length (wcells acc)
  len : h6.length = 6
  nrc : rb ≠ cb
  nrn : rb ≠ nb
  ncn : cb ≠ nb
  lr : rb < base
  lc : cb < base
  ln : nb < base
  oc : w.heap.size ≤ cb
  on : w.heap.size ≤ nb
  hb : base ≤ wr.heap.size
/-- How many writes more may come. -/
def writesLeft (cb : Nat) (w : World) : Nat := match w.cell? ⟨cb, 6, none⟩ with
  | some (.slice _ n _) => 9 - n
  | _ => 0
theorem GSt.read {w wr w1 : World} {rb cb nb base : Nat} {v vs : Value} {h6 : List Value} {acc : List Wr} {a a' : Nat} {bad bad' : Bool} (h : GSt w wr rb cb nb base v h6 vs acc a bad) (hr : Rdr w w1 rb v a' bad') (hg : wr.grownBy w1 (some rb)) :
    GSt w w1 rb cb nb base v h6 vs acc a' bad' :=
  ⟨hr, h.chg.gb hg (fun e => h.nrc e.symm), h.res.gb hg (fun e => h.nrn e.symm), h.row.kept hg (by
    rcases hv : vs.ownBlock with _ | j
    · exact .inl rfl
    · refine .inr fun e => ?_
      injection e with e
      have := (World.ownsRow.lt h.row j hv).1
      have := h.lr
      omega), h.len, h.nrc, h.nrn, h.ncn, h.lr, h.lc, h.ln, h.oc, h.on, Nat.le_trans h.hb hg.size⟩
theorem GSt.left {w wr : World} {rb cb nb base : Nat} {v vs : Value} {h6 : List Value} {acc : List Wr} {a : Nat} {bad : Bool} (h : GSt w wr rb cb nb base v h6 vs acc a bad) : writesLeft cb wr = 9 - acc.length := by
  have hc := h.chg.cell (i := 6) (v := vs) (by rw [List.getElem?_append_right (Nat.le_of_eq h.len), h.len]; rfl)
  unfold writesLeft
  rw [hc]
  rcases h.row.2 with ⟨rfl, hn⟩ | ⟨g, cap, cur, rfl, _⟩
  · rw [hn]
  · rfl
theorem GSt.drew {w wr : World} {rb cb nb base : Nat} {v vs : Value} {h6 : List Value} {acc : List Wr} {a : Nat} {bad : Bool} (h : GSt w wr rb cb nb base v h6 vs acc a bad) : GSt w wr.drew rb cb nb base v h6 vs acc a bad :=
  ⟨h.rdr.more (ext_drew _), h.chg.drew, h.res.drew, h.row.drew, h.len, h.nrc, h.nrn, h.ncn, h.lr, h.lc, h.ln, h.oc, h.on, h.hb⟩
/-- A write more. -/
theorem GSt.more {w wr w3 : World} {rb cb nb base k : Nat} {v vs vs' : Value} {h6 : List Value} {acc : List Wr} {a : Nat} {bad : Bool} {x : Wr} {ys : List Value} {tmp : Obj} (h : GSt w wr rb cb nb base v h6 vs acc a bad)
    (hown : w3.ownsRow base 62 4 vs' k ys) (hk : k = acc.length + 1) (hys : ys = wcells acc ++ [strV x.key, .int .i64 x.group, .bool x.gone, strV x.value]) (hg : (wr.alloc tmp).grownBy w3 vs.ownBlock) :
    Blk w3 cb (h6 ++ [vs]) ∧ GSt w (w3.setCell ⟨cb, 6, none⟩ vs') rb cb nb base v h6 vs' (acc ++ [x]) a bad := by
  subst hk hys
  have hge := World.ownsRow.lt h.row
  have keep : ∀ {b : Nat} {L : List Value}, b < base → Blk wr b L → Blk w3 b L := fun {b L} hb hk => by
    have hl := hk.lt
    obtain ⟨T, hT⟩ := hk
    refine ⟨T, (hg.block b (by simp; omega) (fun e => ?_)).trans ((Below.heap_alloc _ _ _ (by omega)).trans hT)⟩
    have := (hge b e.symm).1
    omega
  have hc := keep h.lc h.chg
  have hsz := hg.size
  rw [World.size_alloc] at hsz
  have hext : Ext w w3 := Below.grown (h.rdr.ext.trans (ext_alloc _ _)) hg (by have := h.rdr.ext.size; simp; omega) (fun j hj => by have := (hge j hj).1; have := h.oc; have := h.lc; omega)
  refine ⟨hc, ⟨⟨(keep h.lr h.rdr.blk).apart (a := ⟨cb, 6, none⟩) _ h.nrc, hext.setCell (p := ⟨cb, 6, none⟩) h.oc _, h.rdr.own⟩, ?_, (keep h.ln h.res).apart (a := ⟨cb, 6, none⟩) _ (fun e => h.ncn e.symm), ?_, h.len, h.nrc, h.nrn, h.ncn, h.lr, h.lc, h.ln, h.oc, h.on, ?_⟩⟩
  · have := hc.set 6 vs'
    rw [List.set_append_right _ _ (Nat.le_of_eq h.len), h.len] at this
    exact this
  · rw [List.length_append, wcells_snoc]
    refine hown.kept (gb_set _ _ _ _) ?_
    rcases hv : vs'.ownBlock with _ | j
    · exact .inl rfl
    · refine .inr fun e' => ?_
      injection e' with e'
      have := (World.ownsRow.lt hown j hv).1
      have := h.lc
      omega
  · have := h.hb
    simp
    omega
/-- How far the statement 'c.Writes = append(c.Writes, r.write())' is. -/
def GPh (w : World) (rb cb nb base : Nat) (v : Value) (h6 : List Value) (vs : Value) (acc : List Wr) (x : Wr) (a a' : Nat) (bad' : Bool) : List Value → World → Prop
  | [], w' => GSt w w' rb cb nb base v h6 vs acc a false
  | [v1], w' => v1 = .agg #[strV x.key, .int .i64 x.group, .bool x.gone, strV x.value] ∧ GSt w w' rb cb nb base v h6 vs acc a' bad'
  | [_, v2], w' => ∃ W9 : World, v2 = .slice (some ⟨W9.heap.size, 0, none⟩) 1 1 ∧ w' = W9.alloc (.cells #[strV x.key, .int .i64 x.group, .bool x.gone, strV x.value] 62) ∧ GSt w W9 rb cb nb base v h6 vs acc a' bad'
  | [_, _, v3], w' => Blk w' cb (h6 ++ [vs]) ∧ GSt w (w'.setCell ⟨cb, 6, none⟩ v3) rb cb nb base v h6 v3 (acc ++ [x]) a' bad'
  | _, w' => ∃ v3, GSt w w' rb cb nb base v h6 v3 (acc ++ [x]) a' bad'
theorem GPh.load {w w' : World} {rb cb nb base : Nat} {v : Value} {h6 : List Value} {vs : Value} {acc : List Wr} {x : Wr} {a a' : Nat} {bad' : Bool} {l : List Value} (h : GPh w rb cb nb base v h6 vs acc x a a' bad' l w') (hl : l.length ≤ 2) : w'.cell? ⟨cb, 6, none⟩ = some vs := by
  have get : ∀ {w' : World} {a : Nat} {bad : Bool}, GSt w w' rb cb nb base v h6 vs acc a bad → w'.cell? ⟨cb, 6, none⟩ = some vs := fun {w' a bad} hg =>
    hg.chg.cell (i := 6) (by rw [List.getElem?_append_right (Nat.le_of_eq hg.len), hg.len]; rfl)
  match l, hl, h with
  | [], _, h => exact get h
  | [v1], _, h => exact get h.2
  | [v1, v2], _, h =>
    obtain ⟨W9, _, rfl, hg⟩ := h
    have := (hg.chg.ext (ext_alloc W9 (.cells #[strV x.key, .int .i64 x.group, .bool x.gone, strV x.value] 62))).cell (i := 6) (v := vs) (by rw [List.getElem?_append_right (Nat.le_of_eq hg.len), hg.len]; rfl)
    exact this
theorem exec_append {w : World} {o : Oper} {f : Operand → Value} {t : TypeId} {x y : Operand} {v u : Value} (hop : o.op = .call { callee := .builtin .append, args := #[x, y], argTypes := #[t, t] }) (hx : f x = v) (hy : f y = u) :
    (execOp f o).run Tryd.prog w = ((Builtin.append_ #[t, t] o.type #[v, u]).run Tryd.prog w).andThen fun r w => .ok (.value r) w := by
  unfold execOp
  simp only [hop, resolve, invoke, builtin, Sem.run_bind, Sem.run_pure, Result.andThen_ok, List.map_toArray, List.map_cons, List.map_nil, hx, hy]
end Go.Proofs.YtacabcpjaadijaaDoor
