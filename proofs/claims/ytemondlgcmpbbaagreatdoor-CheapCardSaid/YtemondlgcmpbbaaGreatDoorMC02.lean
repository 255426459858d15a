/- Laws for values of several cells: loaded out of the middle of a block, stored into it. Bytes as cells. -/
import Derived.Test.YtemondlgcmpbbaaGreatDoorMC01
import Derived.Deep.MidRow
import Derived.Deep.WholeRow
import Derived.Outline
import Derived.Deep.DeepMust
import Derived.Great.BuildSlice
import Derived.Deep.RegionHeld
namespace Go.Proofs.YtemondlgcmpbbaaGreatDoor
open Go.RowKit

/-- Bytes as cells. -/
def bc (l : List UInt8) : List Value := l.map fun x => Value.int .u8 x.toNat
theorem bc_length (l : List UInt8) : (bc l).length = l.length := by simp [bc]
theorem bc_one (l : List UInt8) : ∀ u ∈ bc l, u.oneCell' = true := by
  intro u hu
  obtain ⟨x, _, rfl⟩ := List.mem_map.1 hu
  rfl
theorem bc_app (a b : List UInt8) : bc (a ++ b) = bc a ++ bc b := by simp [bc]
theorem bc_take (a : List UInt8) (n : Nat) : bc (a.take n) = (bc a).take n := by simp [bc, List.map_take]
theorem bc_drop (a : List UInt8) (n : Nat) : bc (a.drop n) = (bc a).drop n := by simp [bc, List.map_drop]
theorem bc_at {l : List UInt8} {j : Nat} {x : UInt8} (h : l[j]? = some x) : (bc l)[j]? = some (Value.int .u8 x.toNat) := by simp [bc, h]
theorem bc_get (l : List UInt8) (j : Nat) (h : j < l.length) : (bc l)[j]? = some (Value.int .u8 l[j].toNat) := bc_at (List.getElem?_eq_getElem h)

theorem sub_at {α : Type} {cur cs : List α} {o : Nat} (h : (cur.drop o).take cs.length = cs) (j : Nat) (v : α) (hv : cs[j]? = some v) : cur[o + j]? = some v := by
  rw [← h, List.getElem?_take] at hv
  split at hv
  · rwa [List.getElem?_drop] at hv
  · cases hv

theorem Blk.range {w : World} {g : Nat} {t : TypeId} {cur cs : List Value} {o : Nat} (hb : Blk w g t cur.toArray) (h : (cur.drop o).take cs.length = cs) : w.rangeAt g o cs := fun j v hv => by
  rw [hb.cell]
  simpa using sub_at h j v hv

section
variable {P : Program} {w : World} {ops : Array Oper} {rest : List Oper} {op : Oper} {a : Act} {K : Act → World → Prop} {Q : Exit → Act → World → Prop} {E : Prop}

theorem wp_store_sz (ty : TypeId) (x y : Operand) (ho : op.op = .store ty x y) (g o : Nat) (cs : List Value) (hx : a.eval x = .pointer (some ⟨g, o, none⟩)) (hy : a.eval y = .agg cs.toArray) (t : TypeId) (cur : List Value)
    (hg : Blk w g t cur.toArray) (hfit : o + cs.length ≤ cur.length) (hi : (P.info? ty).map (·.size) = some cs.length) (h1 : ∀ v ∈ cs, v.oneCell' = true)
    (h : ∀ w', Blk w' g t (spl cur o cs).toArray → w.grownBy w' (some g) → w'.heap.size = w.heap.size → K (a.put op.dst undef) w') : op.wp P a w K Q := by
  have hst := run_storeCells_at P g o t cs 0 cur.toArray w hg (by simpa using hfit) h1
  have hrun : (storeVar ty ⟨g, o, none⟩ (.agg cs.toArray)).run P w = .ok () (w.setRow g (cur.take o ++ cs ++ cur.drop (o + cs.length)).toArray) := by
    cases hq : P.info? ty with
    | none => simp [hq] at hi
    | some i =>
      have hs : i.size = cs.length := by simpa [hq] using hi
      simp only [Nat.add_zero] at hst
      simp [storeVar, sizeOf, typeInfo, hq, Value.cells, hs, hst]
  unfold Oper.wp execOp
  simp only [ho, hx, hy, Instr.storeAt, Instr.sureAddr, Sem.run_bind, Sem.run_pure, Result.andThen_ok, hrun]
  exact h _ (by have := setRow_heap w g _ (spl cur o cs).toArray t _ hg; unfold Blk; simpa [spl] using this) ⟨rfl, rfl, rfl, by simp [World.setRow], fun k hk hne => setRow_other w g k _ (fun e => hne (by rw [e]))⟩ (by simp [World.setRow])

theorem wpList_store_sz (hgd : op.guard = none) (ty : TypeId) (x y : Operand) (ho : op.op = .store ty x y) (g o : Nat) (cs : List Value) (hx : a.eval x = .pointer (some ⟨g, o, none⟩)) (hy : a.eval y = .agg cs.toArray) (t : TypeId) (cur : List Value)
    (hg : Blk w g t cur.toArray) (hfit : o + cs.length ≤ cur.length) (hi : (P.info? ty).map (·.size) = some cs.length) (h1 : ∀ v ∈ cs, v.oneCell' = true)
    (h : ∀ w', Blk w' g t (spl cur o cs).toArray → w.grownBy w' (some g) → w'.heap.size = w.heap.size → wpList P ops Q rest (a.put op.dst undef) w') : wpList P ops Q (op :: rest) a w :=
  wpList_plain hgd fun _ hK => wp_store_sz ty x y ho g o cs hx hy t cur hg hfit hi h1 fun w' h2 h3 h4 => hK _ _ (h w' h2 h3 h4)

theorem step_store_sz (hgd : op.guard = none) (ty : TypeId) (x y : Operand) (ho : op.op = .store ty x y) (g o : Nat) (cs : List Value) (hx : a.eval x = .pointer (some ⟨g, o, none⟩)) (hy : a.eval y = .agg cs.toArray) (t : TypeId) (cur : List Value)
    (hg : Blk w g t cur.toArray) (hfit : o + cs.length ≤ cur.length) (hi : (P.info? ty).map (·.size) = some cs.length) (h1 : ∀ v ∈ cs, v.oneCell' = true)
    (h : ∀ w', Blk w' g t (spl cur o cs).toArray → w.grownBy w' (some g) → w'.heap.size = w.heap.size → K (a.put op.dst undef) w') : if Region.wanted op (yielded ops a.tmps) = true then Oper.wp P op a w K Q else E := by
  have hw : Region.wanted op (yielded ops a.tmps) = true := by simp [Region.wanted, hgd]
  rw [if_pos hw]
  exact wp_store_sz ty x y ho g o cs hx hy t cur hg hfit hi h1 h

/-- One operation alone may come up. -/
theorem wpAnyH_one {S : World → Prop} {md : Region.Mode} {i fuel : Nat} {listed : Array Bool} {o : Oper} (hr : Region.ready md ops listed = [i]) (ho : ops[i]? = some o) (hw : Region.wanted o (yielded ops a.tmps) = true)
    (h : o.wp P a w (fun a' w' => S w' ∧ wpAnyH P md ops Q S fuel (listed.setIfInBounds i true) a' w') Q) : wpAnyH P md ops Q S (fuel + 1) listed a w := by
  refine wpAnyH_all hr (by simp) fun j hj => ?_
  obtain rfl := List.mem_singleton.1 hj
  unfold wpOp
  simp only [ho, hw, if_true]
  exact .inl h

theorem wp_value {K : Act → World → Prop} {o : Oper} {v : Value} {w' : World} (h : (execOp a.eval o).run P w = .ok (.value v) w') (hK : K (a.put o.dst v) w') : o.wp P a w K Q := by
  unfold Oper.wp
  rw [h]
  exact hK

theorem wpAnyH_val {S : World → Prop} {md : Region.Mode} {i fuel : Nat} {listed : Array Bool} {o : Oper} {v : Value} {w' : World} (d : Option Tmp) (hr : Region.ready md ops listed = [i]) (ho : ops[i]? = some o) (hd : o.dst = d) (hw : Region.wanted o (yielded ops a.tmps) = true)
    (hv : (execOp a.eval o).run P w = .ok (.value v) w') (hS : S w') (h : wpAnyH P md ops Q S fuel (listed.setIfInBounds i true) (a.put d v) w') : wpAnyH P md ops Q S (fuel + 1) listed a w := by
  subst hd
  exact wpAnyH_one hr ho hw (wp_value hv ⟨hS, h⟩)
theorem wp_skip {K : Act → World → Prop} {o : Oper} {w' : World} (h : (execOp a.eval o).run P w = .ok .skip w') (hK : K (a.put o.dst undef) w') : o.wp P a w K Q := by
  unfold Oper.wp
  rw [h]
  exact hK

theorem wpAnyH_skip {S : World → Prop} {md : Region.Mode} {i fuel : Nat} {listed : Array Bool} {o : Oper} {w' : World} (hr : Region.ready md ops listed = [i]) (ho : ops[i]? = some o) (hd : o.dst = none) (hw : Region.wanted o (yielded ops a.tmps) = true)
    (hv : (execOp a.eval o).run P w = .ok .skip w') (hS : S w') (h : wpAnyH P md ops Q S fuel (listed.setIfInBounds i true) a w') : wpAnyH P md ops Q S (fuel + 1) listed a w := by
  refine wpAnyH_one hr ho hw (wp_skip hv ⟨hS, ?_⟩)
  rw [hd]
  exact h
/-- A call by its contract. -/
theorem wpAnyH_call {S : World → Prop} {md : Region.Mode} {i fuel : Nat} {listed : Array Bool} {o : Oper} {f : FuncId} {args : Array Value} (d : Option Tmp) (hr : Region.ready md ops listed = [i]) (ho : ops[i]? = some o) (hd : o.dst = d) (hw : Region.wanted o (yielded ops a.tmps) = true)
    (hrun : (execOp a.eval o).run P w = .ok (.enter f args) w) {R : Ending → World → Prop} {v : Value} {R' : World → Prop} (hc : Calls P f args w R) (hR : ∀ e w', R e w' → e = .returned v ∧ R' w')
    (h : ∀ w', R' w' → S w' ∧ wpAnyH P md ops Q S fuel (listed.setIfInBounds i true) (a.put d v) w') : wpAnyH P md ops Q S (fuel + 1) listed a w := by
  subst hd
  refine wpAnyH_one hr ho hw ?_
  unfold Oper.wp
  rw [hrun]
  refine hc.mono fun e w' hh => ?_
  obtain ⟨rfl, h2⟩ := hR e w' hh
  exact h w' h2
/-- The same, where the value is not said ahead. -/
theorem wpAnyH_callE {S : World → Prop} {md : Region.Mode} {i fuel : Nat} {listed : Array Bool} {o : Oper} {f : FuncId} {args : Array Value} (d : Option Tmp) (hr : Region.ready md ops listed = [i]) (ho : ops[i]? = some o) (hd : o.dst = d) (hw : Region.wanted o (yielded ops a.tmps) = true)
    (hrun : (execOp a.eval o).run P w = .ok (.enter f args) w) {R : Ending → World → Prop} (hc : Calls P f args w R)
    (h : ∀ e w', R e w' → ∃ v, e = .returned v ∧ S w' ∧ wpAnyH P md ops Q S fuel (listed.setIfInBounds i true) (a.put d v) w') : wpAnyH P md ops Q S (fuel + 1) listed a w := by
  subst hd
  refine wpAnyH_one hr ho hw ?_
  unfold Oper.wp
  rw [hrun]
  refine hc.mono fun e w' hh => ?_
  obtain ⟨v, rfl, h2⟩ := h e w' hh
  exact h2
/-- Taken first: with its slot said. -/
theorem wpAnyH_takeD {S : World → Prop} {md : Region.Mode} {i : Nat} {oi : Oper} {v : Value} {fuel : Nat} {listed : Array Bool} (d : Option Tmp) (hi : ops[i]? = some oi) (hd : oi.dst = d) (hs : Region.noSelect ops = true) (hf : Region.free md ops listed i = true) (hr : (Region.ready md ops listed).contains i = true)
    (hQ : ∀ c a w, Q (.panic c) (a.put d v) w → Q (.panic c) a w) (hy : YieldsIf P ops S oi v a) (hS : S w) (h : wpAnyH P md ops Q S fuel (listed.setIfInBounds i true) (a.put d v) w) : wpAnyH P md ops Q S (fuel + 1) listed a w := by
  subst hd
  exact wpAnyH_take hi hs hf hr hQ hy hS h

/-- Two operations may come up, each a value, the one in memory that the other leaves alone. -/
theorem wpAnyH_two {S : World → Prop} {md : Region.Mode} {i j fuel : Nat} {listed : Array Bool} {oi oj : Oper} {vi vj : Value} {w' : World} (di dj : Option Tmp) (hr : Region.ready md ops listed = [i, j]) (hri : Region.ready md ops (listed.setIfInBounds i true) = [j]) (hrj : Region.ready md ops (listed.setIfInBounds j true) = [i])
    (hc : (listed.setIfInBounds j true).setIfInBounds i true = (listed.setIfInBounds i true).setIfInBounds j true) (hoi : ops[i]? = some oi) (hoj : ops[j]? = some oj) (hdi : oi.dst = di) (hdj : oj.dst = dj)
    (hwi : Region.wanted oi (yielded ops a.tmps) = true) (hwj : Region.wanted oj (yielded ops a.tmps) = true) (hwi' : Region.wanted oi (yielded ops (a.put dj vj).tmps) = true) (hwj' : Region.wanted oj (yielded ops (a.put di vi).tmps) = true)
    (hi0 : (execOp a.eval oi).run P w = .ok (.value vi) w) (hi1 : (execOp (a.put dj vj).eval oi).run P w' = .ok (.value vi) w') (hj0 : (execOp a.eval oj).run P w = .ok (.value vj) w') (hj1 : (execOp (a.put di vi).eval oj).run P w = .ok (.value vj) w')
    (hS : S w) (hS' : S w') (hp : (a.put dj vj).put di vi = (a.put di vi).put dj vj)
    (h : wpAnyH P md ops Q S fuel ((listed.setIfInBounds i true).setIfInBounds j true) ((a.put di vi).put dj vj) w') : wpAnyH P md ops Q S (fuel + 2) listed a w := by
  subst hdi; subst hdj
  refine wpAnyH_all hr (by simp) fun k hk => ?_
  simp only [List.mem_cons, List.not_mem_nil, or_false] at hk
  rcases hk with rfl | rfl
  · unfold wpOp
    simp only [hoi, hwi, if_true]
    exact .inl (wp_value hi0 ⟨hS, wpAnyH_one hri hoj hwj' (wp_value hj1 ⟨hS', h⟩)⟩)
  · unfold wpOp
    simp only [hoj, hwj, if_true]
    refine .inl (wp_value hj0 ⟨hS', wpAnyH_one hrj hoi hwi' (wp_value hi1 ⟨hS', ?_⟩)⟩)
    rw [hc, hp]
    exact h

theorem run_slice_one (t e : TypeId) (x : Operand) {o : Oper} (ho : o.op = .buildSlice t 1 #[(0, x)]) (cs : List Value) (hx : a.eval x = .agg cs.toArray) (ie : TypeInfo) (z : Value) (hu : P.underlying t = some (.slice e)) (hie : P.info? e = some ie) (hz : ie.zero = some z)
    (hs : ie.size = cs.length) (hpos : 0 < cs.length) (hsmall : cs.length ≤ 1000) : (execOp a.eval o).run P w = .ok (.value (.slice (some ⟨w.heap.size, 0, none⟩) 1 1)) (w.alloc (.cells cs.toArray e)) := by
  have hf := Great.fill_whole (s := cs.length) hpos [.agg cs.toArray] ((Array.range (1 * ie.size)).map (z.cells[· % z.cells.size]!)) (by intro v hv; rw [List.mem_singleton.1 hv]; simp [Value.cells]) (by simp [hs])
  have hf' : Instr.fill (fun i => some (i * ie.size, ie.size)) ((Array.range (1 * ie.size)).map (z.cells[· % z.cells.size]!)) (#[(0, x)].map fun (i, x) => (i, a.eval x)).toList = some cs.toArray := by
    rw [← hs] at hf
    simpa [hx, Value.cells] using hf
  unfold execOp
  simp only [ho, Sem.run_bind, run_buildSlice w t e 1 _ cs.toArray ie z hu hie hz (by rw [hs]; omega) (by rw [hs]; omega) hf', Result.andThen_ok]
  rfl

/-- A slice of one value, made anew. -/
theorem wp_slice_one (t e : TypeId) (x : Operand) (ho : op.op = .buildSlice t 1 #[(0, x)]) (cs : List Value) (hx : a.eval x = .agg cs.toArray) (ie : TypeInfo) (z : Value) (hu : P.underlying t = some (.slice e)) (hie : P.info? e = some ie) (hz : ie.zero = some z)
    (hs : ie.size = cs.length) (hpos : 0 < cs.length) (hsmall : cs.length ≤ 1000)
    (h : K (a.put op.dst (.slice (some ⟨w.heap.size, 0, none⟩) 1 1)) (w.alloc (.cells cs.toArray e))) : op.wp P a w K Q := by
  have hf := Great.fill_whole (s := cs.length) hpos [.agg cs.toArray] ((Array.range (1 * ie.size)).map (z.cells[· % z.cells.size]!)) (by intro v hv; rw [List.mem_singleton.1 hv]; simp [Value.cells]) (by simp [hs])
  refine wp_buildSlice t e 1 #[(0, x)] ho cs.toArray ie z hu hie hz (by rw [hs]; omega) (by rw [hs]; omega) ?_ h
  rw [← hs] at hf
  simpa [hx, Value.cells] using hf

/-- A store into the block that was made last, all of it. -/
theorem wpList_store_new (hgd : op.guard = none) (ty : TypeId) (x y : Operand) (ho : op.op = .store ty x y) (w0 : World) (t : TypeId) (Z : Array Value) (cs : List Value) (hx : a.eval x = .pointer (some ⟨w0.heap.size, 0, none⟩)) (hy : a.eval y = .agg cs.toArray)
    (hz : Z.size = cs.length) (hi : (P.info? ty).map (·.size) = some cs.length) (h1 : ∀ v ∈ cs, v.oneCell' = true)
    (h : wpList P ops Q rest (a.put op.dst undef) (w0.alloc (.cells cs.toArray t))) : wpList P ops Q (op :: rest) a (w0.alloc (.cells Z t)) := by
  refine wpList_plain hgd fun K hK => ?_
  have hst := run_storeCells_at P w0.heap.size 0 t cs 0 Z (w0.alloc (.cells Z t)) (heap_alloc_new w0 _) (by omega) h1
  have hrun : (storeVar ty ⟨w0.heap.size, 0, none⟩ (.agg cs.toArray)).run P (w0.alloc (.cells Z t)) = .ok () (w0.alloc (.cells cs.toArray t)) := by
    cases hq : P.info? ty with
    | none => simp [hq] at hi
    | some i =>
      have hs : i.size = cs.length := by simpa [hq] using hi
      have : Z.toList.drop cs.length = [] := List.drop_of_length_le (by simp [hz])
      simp only [Nat.add_zero, List.take_zero, List.nil_append, Nat.zero_add, this, List.append_nil] at hst
      rw [World.setRow_alloc_new] at hst
      simp [storeVar, sizeOf, typeInfo, hq, Value.cells, hs, hst]
  unfold Oper.wp execOp
  simp only [ho, hx, hy, Instr.storeAt, Instr.sureAddr, Sem.run_bind, Sem.run_pure, Result.andThen_ok, hrun]
  exact hK _ _ h
end

/-- A load of several cells, as the walk's simp leaves it. -/
theorem loadFrom_mid {P : Program} {w : World} {g o n : Nat} {t : TypeId} {cur cs : List Value} (hb : Blk w g t cur.toArray) (hn : cs.length = n) (h : (cur.drop o).take n = cs) : (loadCellsFrom ⟨g, o, none⟩ 0 n #[]).run P w = .ok cs.toArray w := by
  subst hn
  have := run_loadCells_list (P := P) w ⟨g, o, none⟩ cs fun j v hv => by rw [Addr.add_lit]; exact hb.range h j v hv
  simpa [loadCells] using this

theorem ownN_form {w : World} {base s n : Nat} {T : TypeId} {v : Value} {xs : List Value} (h : w.ownsRow base T s v n xs) : ∃ A c, v = .slice A n c ∧ n ≤ c ∧ c ≤ maxLen ∧ (∀ g, v.ownBlock = some g → base ≤ g ∧ g < w.heap.size ∧ A = some ⟨g, 0, none⟩ ∧ ∃ cur, Blk w g T cur ∧ cur.size = c * s ∧ cur.toList.take (n * s) = xs) ∧ (v.ownBlock = none → n = 0 ∧ A = none) := by
  rcases h.2 with ⟨rfl, h0⟩ | ⟨g, cap, cur, rfl, hb, hg, hnc, hcm, hcs, hx⟩
  · exact ⟨none, 0, by rw [h0], by omega, Nat.zero_le _, fun g hg => by simp [Value.ownBlock] at hg, fun _ => ⟨h0, rfl⟩⟩
  · refine ⟨_, cap, rfl, hnc, hcm, fun g' hg' => ?_, fun h0 => by simp [Value.ownBlock] at h0⟩
    have e : g' = g := by simpa [Value.ownBlock] using hg'.symm
    subst e
    exact ⟨hb, Blk.lt (t := T) hg, rfl, cur, hg, hcs, hx⟩

theorem ownN_lt {w : World} {base s n : Nat} {T : TypeId} {v : Value} {xs : List Value} (h : w.ownsRow base T s v n xs) {g : Nat} (hg : v.ownBlock = some g) : base ≤ g ∧ g < w.heap.size := by
  obtain ⟨A, c, rfl, _, _, h1, _⟩ := ownN_form h
  have := h1 g hg
  exact ⟨this.1, this.2.1⟩
theorem ownN_only {w w' : World} {base s n : Nat} {T : TypeId} {v : Value} {xs : List Value} {fp : Nat → Prop} (h : w.ownsRow base T s v n xs) (ho : Only fp w w') (hf : ∀ x cs, Blk w x T cs → ¬ fp x) : w'.ownsRow base T s v n xs := by
  refine ⟨h.1, ?_⟩
  rcases h.2 with h0 | ⟨g, cap, cur, hv, hb, hg, hr⟩
  · exact .inl h0
  · exact .inr ⟨g, cap, cur, hv, hb, ho.blk (t := T) hg (hf _ _ hg), hr⟩
theorem own_own_ne {w : World} {b1 b2 s1 s2 n1 n2 : Nat} {T1 T2 : TypeId} {v1 v2 : Value} {x1 x2 : List Value} (h1 : w.ownsRow b1 T1 s1 v1 n1 x1) (h2 : w.ownsRow b2 T2 s2 v2 n2 x2) (hT : T1 ≠ T2) : v1.ownBlock = v2.ownBlock → v1.ownBlock ≠ none → False := by
  intro e hn
  obtain ⟨g, hg⟩ := Option.ne_none_iff_exists'.1 hn
  obtain ⟨_, _, _, _, _, k1, _⟩ := ownN_form h1
  obtain ⟨_, _, _, _, _, k2, _⟩ := ownN_form h2
  obtain ⟨_, _, _, cur1, hb1, _⟩ := k1 g hg
  obtain ⟨_, _, _, cur2, hb2, _⟩ := k2 g (e ▸ hg)
  exact Blk.ne_ hb1 hb2 hT rfl
theorem ownN_below {w w' : World} {base s n : Nat} {T : TypeId} {v : Value} {xs : List Value} (h : w.ownsRow base T s v n xs) (hb : Below w.heap.size w w') : w'.ownsRow base T s v n xs := ownN_only (fp := fun _ => False) h (Only.of_below hb) fun _ _ _ k => k
theorem spl_all {L cs : List Value} (h : cs.length = L.length) : spl L 0 cs = cs := by
  unfold spl
  rw [List.take_zero, List.nil_append, Nat.zero_add, h, List.drop_length, List.append_nil]
theorem take_drop_take {α : Type} (l : List α) (a b n : Nat) (h : a + b ≤ n) : ((l.take n).drop a).take b = (l.drop a).take b := by
  rw [List.drop_take, List.take_take, Nat.min_eq_left (by omega)]
/-- A slice of bytes, in a block of bytes. -/
def SlU (w : World) (A : Option Addr) (n c : Nat) (bytes : List UInt8) : Prop :=
  bytes.length = n ∧ n ≤ c ∧ c ≤ maxLen ∧ (0 < n → ∃ g o cur, A = some ⟨g, o, none⟩ ∧ Blk w g 5 cur ∧ ∀ j u, (bc bytes)[j]? = some u → cur[o + j]? = some u)

section
variable {w w' : World} {A : Option Addr} {n c : Nat} {bytes : List UInt8}
theorem SlU.only {fp : Nat → Prop} (h : SlU w A n c bytes) (ho : Only fp w w') (hf : ∀ x cs, Blk w x 5 cs → ¬ fp x) : SlU w' A n c bytes := by
  obtain ⟨h1, h2, h3, h4⟩ := h
  refine ⟨h1, h2, h3, fun h0 => ?_⟩
  obtain ⟨g, o, cur, hA, hg, hc⟩ := h4 h0
  exact ⟨g, o, cur, hA, ho.blk hg (hf _ _ hg), hc⟩
theorem SlU.below (h : SlU w A n c bytes) (hb : Below w.heap.size w w') : SlU w' A n c bytes := h.only (fp := fun _ => False) (Only.of_below hb) fun _ _ _ k => k
theorem SlU.src (h : SlU w A n c bytes) : 0 < (bc bytes).length → ∃ ad, A = some ad ∧ ∀ j v, (bc bytes)[j]? = some v → w.cell? (ad.add j) = some v := by
  intro h0
  rw [bc_length, h.1] at h0
  obtain ⟨g, o, cur, hA, hg, hc⟩ := h.2.2.2 h0
  exact ⟨_, hA, fun j v hv => by rw [Addr.add_lit, hg.cell]; exact hc j v hv⟩
theorem SlU.at_ (h : SlU w A n c bytes) {j : Nat} (hj : j < n) : ∃ g o, A = some ⟨g, o, none⟩ ∧ ∃ x, bytes[j]? = some x ∧ w.cell? ⟨g, o + j, none⟩ = some (.int .u8 x.toNat) := by
  obtain ⟨g, o, cur, hA, hg, hc⟩ := h.2.2.2 (by omega)
  have hl : j < bytes.length := by rw [h.1]; exact hj
  refine ⟨g, o, hA, bytes[j], List.getElem?_eq_getElem hl, ?_⟩
  rw [hg.cell]
  exact hc j _ (bc_get _ _ hl)
end
end Go.Proofs.YtemondlgcmpbbaaGreatDoor
