/- Lg Spal Sc Es Sn: merged. -/
import Derived.Test.YtemondlgcmpbbaaGreatDoorRows
import Derived.Test.YtemondlgcmpbbaaGreatDoorMC06
import Derived.ChangeSame
import Derived.ChangeVars
import Derived.JoinedOf
import Derived.RowKit
import Derived.RowKitTokens
import Derived.LaidLaws
import Derived.LaidHandle
import Derived.Stop.Joined
import Derived.Carry
import Derived.Deep.Slices
import Derived.ProofKit
import Derived.Test.YtemondlgcmpbbaaGreatDoorMC28
import Derived.Test.YtemondlgcmpbbaaGreatDoorMC18
import Derived.RangeFuncFrom
import Derived.RangeFuncNested
import Derived.RangeFuncBound
import Derived.RangeFuncCalls
import Derived.RangeFuncLeaves
import Derived.Shelf.Abstract
import Derived.Shelf.RegionOpen
import Derived.OwnWalkIn
import Derived.TacticsInMore
import Derived.LoopNIn
import Derived.LoopIn
import Derived.Test.YtemondlgcmpbbaaGreatDoorMC15
import Derived.Test.YtemondlgcmpbbaaGreatDoorMC19
/- For the cards of the laws whose arguments are numbers: the laid variable; the world that meets the condition. -/
namespace Go.Proofs.YtemondlgcmpbbaaGreatDoor
open Go.ChangeShapes Go.WideShapes Go.RowKit Go.Deep

theorem tOwn : ownKnob Tryz.prog.godebug = none := by kernel_rfl
theorem tEt : Tryz.prog.globalNamed "errors.errorType" = some 0 := by kernel_rfl
theorem tRt : (Tryz.prog.cutTypes.find? (·.1 == "internal/reflectlite.rtype")).map (·.2) = some 214 := by kernel_rfl
theorem tSize : Tryz.prog.types.size = 331 := by kernel_rfl
theorem tOneRow : ((List.range 331).filter fun t => Tryz.prog.rowNamed t [101, 114, 114, 111, 114]) = [31] := by kernel_rfl
theorem tLaidOut : laidOutB Tryz.prog = true := by kernel_rfl

def tLaid : List (String × DataW Unit) := [("errors.errorType", Rows.laid_errors_errorType)]
/-- What the condition gives a walk. -/
theorem glob_of_laid {W : World} (h : laidMetH Tryz.prog tLaid W) : Glob W := by
  have h' : laidMet Tryz.prog [] W ∧ handlesMet Tryz.prog tLaid W := h
  obtain ⟨name, u, ty, e1, e2, e3, e4, e5⟩ := h'.2 _ (List.mem_singleton.2 rfl)
  have en : name = [101, 114, 114, 111, 114] := (Option.some.inj e1).symm
  subst en
  obtain rfl := Option.some.inj (tRt.symm.trans e2)
  have hm : ty ∈ (List.range 331).filter fun t => Tryz.prog.rowNamed t [101, 114, 114, 111, 114] := List.mem_filter.2 ⟨List.mem_range.2 (by rw [← tSize]; exact e3), e4⟩
  rw [tOneRow] at hm
  obtain rfl := List.mem_singleton.1 hm
  have hh : typeHandle Tryz.prog 31 = .pointer (some ⟨1, 31, none⟩) := by kernel_rfl
  rw [hh] at e5
  unfold Glob
  simpa using World.var?_cell tEt e5 0

/-- A world that meets the condition: the settled one, the variable's cell laid. -/
noncomputable def laidWorld (os : Os) : World :=
  let w0 := World.holding Tryz.prog os ⟨#[], #[], []⟩
  { w0 with heap := w0.heap.modify 0 fun
      | .cells _ t frozen => .cells #[.iface 214 (.agg #[.pointer (some ⟨1, 31, none⟩)])] t frozen
      | o => o }
theorem laidWorld_met (os : Os) (args : Array Value) : laidMetH Tryz.prog tLaid ((laidWorld os).forCall (fun _ _ => 0) ⟨#[], args, []⟩).memory :=
  laidMetH_of_parts (laidMet_nil _ _) (by kernel_rfl)

theorem I64_of_wf {n : Int} (h : (Lit.int .i64 n).wf = true) : I64 n := by
  simp only [Lit.wf, Bool.and_eq_true, IntKind.min, IntKind.max] at h
  exact ⟨by have := h.1; simpa [IntKind.signed, IntKind.bits] using this, by have := h.2; simpa [IntKind.signed, IntKind.bits] using this⟩

end Go.Proofs.YtemondlgcmpbbaaGreatDoor

/- The law Spare: lifted; its row. -/
namespace Go.Proofs.YtemondlgcmpbbaaGreatDoor
open Go.ChangeShapes Go.WideShapes Go.RowKit Go.Deep

set_option maxRecDepth 100000 in
theorem spare_lifted (os : Os) (started : os.Started) (H : Type) (enc : TypeId × Value → H) :
    ReturnsInHanded {} Tryz.checked os 4 .any (fun w args => (Rows.spareSpec.pre enc Tryz.prog Tryz.f4 [] false w args ∧ laidMetH Tryz.prog tLaid w) ∧ sizedMet enc Tryz.prog Tryz.f4 (OpenSpec.ofChange Rows.spareSpec) false w args)
      (Rows.spareSpec.post enc Tryz.prog Tryz.f4 false true false false) := by
  refine returnsInHanded_of_change_and (C := Tryz.checked) (X := fun w _ => laidMetH Tryz.prog tLaid w) (fun _ _ _ hh h => h.of_heap hh) tOwn started (by kernel_rfl) Tryz.func4
    (ChangeSpec.witness_at (enc := enc) (C := Tryz.checked) (os := os) (X := fun w _ => laidMetH Tryz.prog tLaid w) false (laidWorld os) #[.int .i64 0, .int .i64 0] 8 rfl (by kernel_rfl) (by kernel_rfl) (by kernel_rfl) (by kernel_rfl) (by kernel_rfl) (laidWorld_met os _)) ?_
  intro W base args ds gs before hval0 hW _ _ hL _
  have hW' := hW
  obtain ⟨p, q, hA0, hV, rfl, _, _⟩ := hW
  have hA : DataW.TrodAll enc Tryz.prog W 0 (fun _ => true) true Tryz.f4.params.toList args.toList ds p := hA0
  rw [Tryz.params4] at hA
  obtain ⟨v0, v1, d0, d1, p0, p1, rfl, rfl, rfl, h0, h1⟩ := trodAll_two hA
  obtain ⟨rfl, rfl⟩ := trodVars_none hV
  have hval : ∀ (j : Nat) t v, Tryz.f4.params[j]? = some t → #[v0, v1][j]? = some v → Value.okWide Tryz.prog W .any base t v := hval0
  obtain ⟨n0, rfl, rfl, rfl, wf0⟩ := open_int Tryz.underlying3 (hval 0 3 v0 (by rw [Tryz.params4]; rfl) rfl) h0
  obtain ⟨n1, rfl, rfl, rfl, wf1⟩ := open_int Tryz.underlying3 (hval 1 3 v1 (by rw [Tryz.params4]; rfl) rfl) h1
  clear hA0 hval0 hval
  simp only [List.append_nil] at hW'
  refine (spare_any n0 n1 W (I64_of_wf wf0) (I64_of_wf wf1)).mono fun e W' ⟨he, hnx⟩ => ?_
  subst he
  refine ⟨_, rfl, _, _, _, [], [], [], hW', ?_, ?_, rfl, hnx.frame _, fun h => by cases h⟩
  · exact trodAll_mk1 (shut_bool Tryz.underlying4 true)
  · exact trodAll_mk2 (shut_int Tryz.underlying3 wf0) (shut_int Tryz.underlying3 wf1)

theorem spare_q1 : laidOutB Tryz.pinned.checked.prog = true ∧ mapsRowed Tryz.pinned.checked.prog = true := ⟨by kernel_rfl, by kernel_rfl⟩
theorem spare_q2 : (Rows.spareRow.inPlace == Tryz.pinned.checked.prog.inPlace 4) = true ∧ (Rows.spareRow.unfollowed == Tryz.pinned.checked.prog.unfollowed 4) = true ∧ (Rows.spareRow.recurses == Tryz.pinned.checked.prog.recurses 4) = true ∧ (Rows.spareRow.named == Tryz.pinned.checked.prog.varsNamed 4) = true :=
  ⟨by kernel_rfl, by kernel_rfl, by kernel_rfl, by kernel_rfl⟩
theorem spare_q3 : Tryz.pinned.checked.prog.mayEnter = true := by kernel_rfl
theorem spare_q4 : (Rows.spareRow.lifted == Tryz.pinned.checked.prog.liftsFinal) = true := by kernel_rfl
theorem spare_q5 : (Tryz.pinned.checked.prog.make == some Rows.spareRow.make) = true := by kernel_rfl
theorem spare_q6 : joinedFacts Tryz.pinned.checked.prog 4 Tryz.f4 Rows.spareSpec Rows.spareRow = true := by
  have am : ∀ {a b : Bool}, a = true → b = true → (a && b) = true := fun h k => by rw [h, k]; rfl
  unfold joinedFacts
  repeat' with_reducible apply am
  all_goals first | with_reducible exact spare_q1.1 | with_reducible exact spare_q1.2 | with_reducible exact spare_q2.1 | with_reducible exact spare_q2.2.1 | with_reducible exact spare_q2.2.2.1 | with_reducible exact spare_q2.2.2.2 | with_reducible exact spare_q3 | with_reducible exact spare_q4 | with_reducible exact spare_q5 | kernel_rfl
theorem spare_holds : Rows.SpareSaid :=
  OpenClaim.holds_of_wide 4 Tryz.f4 rfl rfl rfl rfl rfl rfl rfl ⟨rfl, rfl, rfl, rfl, rfl⟩ rfl rfl rfl rfl rfl (by kernel_rfl) Tryz.func4 spare_q6
    (of_decide_eq_true (by kernel_rfl)) (by unfold Func.isWrapper; rw [if_neg (of_decide_eq_false (by kernel_rfl))]; exact ⟨rfl, rfl⟩)
    (fun os started H enc _ => spare_lifted os started H enc)
end Go.Proofs.YtemondlgcmpbbaaGreatDoor

/- Walks: what an empty transaction shows: All, Scan at no tree. -/
namespace Go.Proofs.YtemondlgcmpbbaaGreatDoor
open Go.RowKit Go.Shelf

theorem Only.back {x : Nat} {T : TypeId} {cs : Array Value} {w w' : World} (h : Only (· = x) w w') (a : Blk w x T cs) (b : Blk w' x T cs) : Below w.heap.size w w' :=
  ⟨h.os, h.tape, h.output, h.size, fun y hy => by
    by_cases e : y = x
    · subst e; exact b.trans a.symm
    · exact h.block y hy e⟩
theorem Below.grown {w w' : World} (h : Below w.heap.size w w') : w.grownBy w' none := ⟨h.os, h.tape, h.output, h.size, fun k hk _ => h.block k hk⟩

set_option maxRecDepth 100000 in
set_option maxHeartbeats 1000000 in
theorem all1_nil (t x b0 b1 b2 k : Nat) (τ : TxS) (s : DbS) (lo _hi : ByteArray) (w : World) (hT : TxAt w t τ) (hD : DbAt w x s) (hx : τ.db = x) (hroot : τ.root = .pointer none) (hok : mayC s.poi τ.done false τ.write = 0)
    (h0 : Blk w b0 29 #[.pointer (some ⟨t, 0, none⟩)]) (h1 : Blk w b1 9 #[.string lo]) :
    Calls Tryz.prog 140 #[.func (.yield k) #[] #[], .pointer (some ⟨b0, 0, none⟩), .pointer (some ⟨b1, 0, none⟩), .pointer (some ⟨b2, 0, none⟩)] w fun e w' => (∃ v, e = .returned v) ∧ Below w.heap.size w w' := by
  have hmf : ∀ (fn : Fn) (first cap : Array Value) (w : World), (Instr.makeFunc fn first cap).run Tryz.prog w = .ok (.func fn first cap) w := fun _ _ _ _ => rfl
  have hbA := (Below.refl w.heap.size w).alloc (Nat.le_refl _) (.cells #[.func (.yield k) #[] #[]] 226)
  have c0 := fun o => cellA o (cellOf h0 0 rfl)
  have HS := hide (see_any t x τ s ⟨#[97, 108, 108]⟩ _ (hT.below hbA hT.lt) (hD.below hbA hD.lt) hx none hroot)
  rw [hok, hroot] at HS
  have HD := hide (hD.below hbA hD.lt)
  have HB := hide hbA
  have H1 := hide (h1.below hbA h1.lt)
  clear hT hD h0 h1 hbA
  go_enter Tryz.func140, Tryz.ntmps140
  go_wp2_with (first
    | (go_at_call 66; refine HS.out.mono ?_; rintro e w1 ⟨v, rfl, hv, hd1, ht1, ho1⟩
       have hb1 := ho1.back HD.out hd1
       obtain rfl : v = .nilIface := by
         rcases hv with h | h
         · exact h.2
         · exact absurd rfl h.1
       have e1 := fun o => cellA o (cellOf (H1.out.below hb1 H1.out.lt) 0 rfl)
       have HB1 := hide hb1
       clear hb1 hv hd1 ht1 ho1)
    | (go_at_call 105; go_in))
  go_end0
  go_wp2
  go_end0
  refine ⟨⟨_, rfl⟩, ?_⟩
  have h1 := HB.out.trans (HB1.out.mono (by simp))
  have hz := h1.size
  exact (h1.alloc (by omega) _).alloc (by simp; omega) _

theorem all_any (t : Nat) (lo hi : ByteArray) (w : World) :
    Calls Tryz.prog 102 #[.pointer (some ⟨t, 0, none⟩), .string lo, .string hi] w fun e w' => e = .returned (.func (.func 140) #[] #[.pointer (some ⟨w.heap.size, 0, none⟩), .pointer (some ⟨w.heap.size + 1, 0, none⟩), .pointer (some ⟨w.heap.size + 1 + 1, 0, none⟩)]) ∧
      w' = ((w.alloc (.cells #[.pointer (some ⟨t, 0, none⟩)] 29)).alloc (.cells #[.string lo] 9)).alloc (.cells #[.string hi] 9) := by
  have hmf : ∀ (fn : Fn) (first cap : Array Value) (w : World), (Instr.makeFunc fn first cap).run Tryz.prog w = .ok (.func fn first cap) w := fun _ _ _ _ => rfl
  go_enter Tryz.func102, Tryz.ntmps102
  go_wp2
  go_ret
  exact ⟨rfl, rfl⟩

attribute [local go_sem] Oper.semAt_some

set_option maxRecDepth 100000 in
set_option maxHeartbeats 2000000 in
theorem scan_nil (t x : Nat) (τ : TxS) (s : DbS) (lo hi : ByteArray) (most : Int) (hm : 0 < most) (w : World) (hT : TxAt w t τ) (hD : DbAt w x s) (hx : τ.db = x) (hroot : τ.root = .pointer none) (hok : mayC s.poi τ.done false τ.write = 0) :
    Calls Tryz.prog 64 #[.pointer (some ⟨t, 0, none⟩), .string lo, .string hi, .int .i64 most] w fun e w' => e = .returned (.tuple #[.slice none 0 0, .nilIface]) ∧ Below w.heap.size w w' := by
  have hml : ¬ most < 1 := by omega
  refine (callsIn_wide (n := 3)).1 ?_
  refine callsIn_of_wp_marks Tryz.func64 rfl trivial ?_ rfl
  simp only [Tryz.ntmps64, List.size_toArray, List.length_cons, List.length_nil, Nat.reduceAdd, Nat.reduceSub, Array.replicate_succ, Array.replicate_zero, List.push_toArray, List.append_toArray, List.nil_append, List.cons_append]
  gi_wp2_with (refine ⟨trivial, ?_⟩; gi_at_call 102; refine (callsIn_wide.2 (all_any t lo hi _)).mono ?_; rintro e w' ⟨rfl, rfl⟩)
  obtain ⟨W0, hW0⟩ : ∃ W0, W0 = ((((((w.alloc (.cells #[.int .i64 most] 3)).alloc (.cells #[.slice none 0 0] 39)).alloc (.cells #[.nilIface] 31)).alloc (.cells #[.slice none 0 0] 39)).alloc (.cells #[.pointer (some ⟨t, 0, none⟩)] 29)).alloc (.cells #[.string lo] 9)).alloc (.cells #[.string hi] 9) := ⟨_, rfl⟩
  have hz : W0.heap.size = w.heap.size + 7 := by rw [hW0]; simp only [World.size_alloc]
  have hbel : Below w.heap.size w W0 := by
    rw [hW0]
    exact ((((((((Below.refl w.heap.size w).alloc (by simp) _).alloc (by simp) _).alloc (by simp; omega) _).alloc (by simp; omega) _).alloc (by simp; omega) _).alloc (by simp; omega) _).alloc (by simp; omega) _)
  have hA : W0.cell? ⟨w.heap.size + 1 + 1 + 1, 0, none⟩ = some (.slice none 0 0) := by
    rw [hW0]
    refine cellA _ (cellA _ (cellA _ ?_))
    have := cellOf (Blk.new (((w.alloc (.cells #[.int .i64 most] 3)).alloc (.cells #[.slice none 0 0] 39)).alloc (.cells #[.nilIface] 31)) 39 #[.slice none 0 0]) 0 rfl
    simpa using this
  have hR1 : Blk W0 (w.heap.size + 1) 39 #[.slice none 0 0] := by
    rw [hW0]
    exact (((((Blk.new2 w _ _ _).alloc _).alloc _).alloc _).alloc _).alloc _
  have hR2 : Blk W0 (w.heap.size + 1 + 1) 31 #[.nilIface] := by
    rw [hW0]
    have := Blk.new2 (w.alloc (.cells #[.int .i64 most] 3)) (.cells #[.slice none 0 0] 39) 31 #[.nilIface]
    rw [World.size_alloc] at this
    exact (((this.alloc _).alloc _).alloc _).alloc _
  have hB0 : Blk W0 (w.heap.size + 1 + 1 + 1 + 1) 29 #[.pointer (some ⟨t, 0, none⟩)] := by
    rw [hW0]
    have := Blk.new ((((w.alloc (.cells #[.int .i64 most] 3)).alloc (.cells #[.slice none 0 0] 39)).alloc (.cells #[.nilIface] 31)).alloc (.cells #[.slice none 0 0] 39)) 29 #[.pointer (some ⟨t, 0, none⟩)]
    simp only [World.size_alloc] at this
    exact (this.alloc _).alloc _
  have hB1 : Blk W0 (w.heap.size + 1 + 1 + 1 + 1 + 1) 9 #[.string lo] := by
    rw [hW0]
    have := Blk.new (((((w.alloc (.cells #[.int .i64 most] 3)).alloc (.cells #[.slice none 0 0] 39)).alloc (.cells #[.nilIface] 31)).alloc (.cells #[.slice none 0 0] 39)).alloc (.cells #[.pointer (some ⟨t, 0, none⟩)] 29)) 9 #[.string lo]
    simp only [World.size_alloc] at this
    exact this.alloc _
  have hT0 := hT.below hbel hT.lt
  have hD0 := hD.below hbel hD.lt
  rw [← hW0]
  refine wpIn_rangeFunc_ownH (α := Empty) rfl (by omega) (gf := 140) (lb := #[.pointer (some ⟨w.heap.size + 1 + 1 + 1 + 1, 0, none⟩), .pointer (some ⟨w.heap.size + 1 + 1 + 1 + 1 + 1, 0, none⟩), .pointer (some ⟨w.heap.size + 1 + 1 + 1 + 1 + 1 + 1, 0, none⟩)]) rfl trivial (enters_of Tryz.func140 (by kernel_rfl) rfl)
    (encs := fun x => x.elim) (Kp := fun _ _ => True) (S := fun _ => True) (Sp := fun _ => False) (N := 0) (w0 := W0) ?hseq (fun _ _ => trivial) (fun _ _ _ _ _ _ _ _ => trivial) (Below.refl _ _) (fun x => x.elim)
    (fun _ W => Below W0.heap.size W0 W) (fun _ _ _ => False) (ownFrom_below (Nat.le_refl _) (Nat.le_refl _)) (fun _ _ _ _ _ h _ _ => h) (Below.refl _ _) (fun x _ _ => x.elim) (fun x => x.elim) (fun _ _ x => x.elim) (fun _ _ x => x.elim) ?done (fun _ _ _ _ _ h => h.elim)
  case hseq =>
    intro l J Jx W hW hJ hJx _ h0
    refine callsIn_wide.2 ((all1_nil t x _ _ _ l τ s lo hi W (hT0.below hW hT0.lt) (hD0.below hW hD0.lt) hx hroot hok (hB0.below hW hB0.lt) (hB1.below hW hB1.lt)).mono ?_)
    rintro e w' ⟨hv, hb⟩
    exact ⟨hv, .inl ⟨[], trivial, hJ [] W w' none h0 (Below.grown hb) (fun r e => by cases e)⟩⟩
  case done =>
    rintro D ys W hDs _ hW hK
    have c1 : W.cell? ⟨w.heap.size + 1 + 1 + 1, 0, none⟩ = some (.slice none 0 0) := below_cell hA hW
    have hr1 := hR1.below hW hR1.lt
    have hr2 := hR2.below hW hR2.lt
    have c2 := cellOf hr1 0 rfl
    have c3 := cellOf hr2 0 rfl
    have f1 : W.frozen? ⟨w.heap.size + 1, 0, none⟩ = false := hr1.frozen 0
    have f2 : W.frozen? ⟨w.heap.size + 1 + 1, 0, none⟩ = false := hr2.frozen 0
    gi_wp2
    obtain ⟨W2, hW2⟩ : ∃ W2, W2 = (W.setCell ⟨w.heap.size + 1, 0, none⟩ (.slice none 0 0)).setCell ⟨w.heap.size + 1 + 1, 0, none⟩ .nilIface := ⟨_, rfl⟩
    have hK2 : W2.heap[D]? = some (.deferred (some [])) := by rw [hW2]; exact ((KeepsOthers.setCell _ _ _).trans (KeepsOthers.setCell _ _ _)).same D _ hK rfl
    have hq1 : Blk W2 (w.heap.size + 1) 39 #[.slice none 0 0] := by rw [hW2]; exact (hr1.set_ 0 _).far (by simp) _
    have hq2 : Blk W2 (w.heap.size + 1 + 1) 31 #[.nilIface] := by rw [hW2]; exact (hr2.far (by simp) _).set_ 0 _
    have hb2 : Below w.heap.size w W2 := by
      rw [hW2]
      exact ((hbel.trans (hW.mono (by omega))).setCell (p := ⟨w.heap.size + 1, 0, none⟩) (by simp) _).setCell (p := ⟨w.heap.size + 1 + 1, 0, none⟩) (by simp; omega) _
    rw [← hW2]
    refine ⟨by simp, .inl ⟨_, _, rfl, run_takeDeferred hK2, ?_⟩⟩
    have g := grownBy_putObj' W2 D (.deferred none)
    have d1 := cell_kept (cellOf hq1 0 rfl) g (fun r e => by cases e; exact ⟨_, hK2, rfl⟩)
    have d2 := cell_kept (cellOf hq2 0 rfl) g (fun r e => by cases e; exact ⟨_, hK2, rfl⟩)
    refine ⟨.tuple #[.slice none 0 0, .nilIface], by simp [results, Tryz.results64, go_sem, d1, d2], rfl, ?_⟩
    exact ⟨g.os.trans hb2.os, g.tape.trans hb2.tape, g.output.trans hb2.output, Nat.le_trans hb2.size g.size, fun y hy => (g.block y (Nat.lt_of_lt_of_le hy hb2.size) (fun e => by injection e; omega)).trans (hb2.block y hy)⟩
end Go.Proofs.YtemondlgcmpbbaaGreatDoor

/- tree.each and Tree.Each, at Txn.All's function. -/
namespace Go.Proofs.YtemondlgcmpbbaaGreatDoor
open Go.RowKit

/-- What a yield says: go on; or no more. -/
def YPostS (n₀ : Nat) (J Jx : List (Str × Str) → World → Prop) (pre : List (Str × Str)) (x : Str × Str) (W : World) : Ending → World → Prop := fun e W' =>
  (e = .returned (.bool true) ∧ J (pre ++ [x]) W' ∧ Below n₀ W W') ∨ (e = .returned (.bool false) ∧ Jx (pre ++ [x]) W')
/-- What a walk through some pairs comes to. -/
def EPostS (n₀ : Nat) (J Jx : List (Str × Str) → World → Prop) (pre xs : List (Str × Str)) (W : World) : Ending → World → Prop := fun e W' =>
  (e = .returned (.bool true) ∧ J (pre ++ xs) W' ∧ Below n₀ W W') ∨ (e = .returned (.bool false) ∧ ∃ q, q <+: xs ∧ Jx (pre ++ q) W')
def LRelS (n₀ : Nat) (J : List (Str × Str) → World → Prop) (pre xs : List (Str × Str)) (W : World) (N : Nat) (s : Value) (wr : World) : Prop :=
  ∃ k : Nat, k ≤ N ∧ s = .int .i64 k ∧ J (pre ++ xs.take k) wr ∧ Below n₀ W wr

section
variable {n₀ : Nat} {L : List (Str × Str)} {J Jx : List (Str × Str) → World → Prop} {q1 q2 : Nat}

set_option maxRecDepth 100000 in
set_option maxHeartbeats 1600000 in
theorem each_leafS (hJ : ∀ pre W W', J pre W → Below W.heap.size W W' → J pre W') (hY : ∀ pre x W, J pre W → pre ++ [x] <+: L → n₀ ≤ W.heap.size → Calls Tryz.prog 141 #[.agg #[.string x.1, .string x.2], .pointer (some ⟨q1, 0, none⟩), .pointer (some ⟨q2, 0, none⟩)] W (YPostS n₀ J Jx pre x W))
    (n : Tr 0) (lo : Str) (b : Nat) (ds : List Nat) (pre : List (Str × Str)) (W : World) (hf : FRep (fun z => z < n₀) W 0 n b ds) (hr : Rise (Nd.es n)) (h1 : 1 ≤ (Nd.es n).length) (hn : (Nd.es n).length ≤ 400) (hL : pre ++ (Nd.es n).drop (place lo (Nd.es n)) <+: L) (h0 : J pre W) (hn0 : n₀ ≤ W.heap.size) :
    Calls Tryz.prog 145 #[P b, .string lo, .func (.func 141) #[] #[.pointer (some ⟨q1, 0, none⟩), .pointer (some ⟨q2, 0, none⟩)]] W (EPostS n₀ J Jx pre ((Nd.es n).drop (place lo (Nd.es n))) W) := by
  obtain ⟨A1, c1, A2, c2, hnd, hbn, hro, hds⟩ := hf
  have LEAF := hide (leaf_yes b (Nd.blk n) (Nd.gen n) c2 (Nd.dirty n) _ A2 W hnd.node)
  have PLACE := hide (place_any n lo b _ W (show Rep W 0 n b ds from ⟨_, _, hnd.node, hnd.ps, hnd.ks, hds⟩) hr (Nat.le_trans hn (by omega)))
  obtain ⟨es, hes⟩ : ∃ es, es = Nd.es n := ⟨_, rfl⟩
  rw [← hes] at hnd PLACE hr h1 hn hro hL ⊢
  have hat : ∀ wr, Below n₀ W wr → ∀ j (hj : j < es.length), ∃ g o, A1 = some ⟨g, o, none⟩ ∧ wr.cell? ⟨g, o + j * 2, none⟩ = some (.string es[j].1) ∧ wr.cell? ⟨g, o + j * 2 + 1, none⟩ = some (.string es[j].2) := by
    intro wr hb j hj
    obtain ⟨g, o, u1, u2, hA, hu1, hu2, hc1, hc2, hgl⟩ := hnd.ps.cells_at (Below.refl W.heap.size W) hj
    have hp := pcells_at es j hj
    have e1 := hu1.symm.trans hp.1
    have e2 := hu2.symm.trans hp.2
    injection e1 with e1
    injection e2 with e2
    subst e1; subst e2
    have hg0 : g < n₀ := hro (by omega) _ hA
    exact ⟨g, o, hA, (hb.cell (p := ⟨g, o + j * 2, none⟩) hg0).trans hc1, (hb.cell (p := ⟨g, o + j * 2 + 1, none⟩) hg0).trans hc2⟩
  obtain ⟨g, o, hA, _, _⟩ := hat W (Below.refl _ _) 0 (by omega)
  subst hA
  have hc3 : W.cell? ⟨b, 3, none⟩ = some (.slice (some ⟨g, o, none⟩) es.length c1) := by rw [Blk.cell hnd.node]; rfl
  have hcap : es.length ≤ c1 ∧ c1 ≤ maxLen := by
    obtain ⟨_, _, _, hv, e1, e2, _⟩ := hnd.ps
    injection hv with _ _ e3
    subst e3
    exact ⟨e1, e2⟩
  have hblt : b < W.heap.size := Blk.lt hnd.node
  have hpl := place_le lo es
  obtain ⟨i, hi⟩ : ∃ i, i = place lo es := ⟨_, rfl⟩
  obtain ⟨th, hth⟩ : ∃ th, th = there lo es := ⟨_, rfl⟩
  rw [← hi] at PLACE hpl hL ⊢
  rw [← hth] at PLACE
  obtain ⟨hcap1, hcap2⟩ := hcap
  have hml := hcap2
  unfold maxLen at hml
  have HAT := hide hat
  have HY := hide hY
  have HJ := hide hJ
  have H0 := hide h0
  have HLEN := hide (show es.length = i + (es.length - i) by omega)
  have HDL := hide (show (es.drop i).length = es.length - i by simp)
  have HL := hide hL
  clear hnd hro hds hat hY hJ h0 hi hth hr hes hL
  have k0 : (0 : Int) ≤ (i : Int) := by omega
  have k1 : (i : Int) ≤ (es.length : Int) := by omega
  have k2 : (es.length : Int) ≤ (c1 : Int) := by omega
  have k3 : (i : Int) ≤ (c1 : Int) := by omega
  unfold P
  go_enter Tryz.func145, Tryz.ntmps145
  go_upto_region 3 with (first
    | (go_at_call 81; go_loud (refine LEAF.out.mono ?_; rintro e w' ⟨rfl, rfl⟩))
    | (go_at_call 83; go_loud (
       refine PLACE.out.mono ?_; rintro e w2 ⟨rfl, hb2⟩
       have d3 : w2.cell? ⟨b, 3, none⟩ = some (.slice (some ⟨g, o, none⟩) es.length c1) := (hb2.cell hblt).trans hc3
       have HB2 := hide hb2)))
  go_cut [26, 27, 28] (fun s26 s27 s28 wx => ∃ O, (i < es.length → O = o + i * 2) ∧ s26 = .slice (some ⟨g, O, none⟩) (es.length - i) (c1 - i) ∧ s27 = .int .i64 ((es.length - i : Nat) : Int) ∧ s28 = .int .i64 0 ∧ wx = w2)
  case first =>
    go_wp2
    all_goals
      go_meet
      first
        | exact ⟨o + i * 2, fun _ => rfl, rfl, rfl, rfl, rfl⟩
        | (refine ⟨o, fun h => by omega, ?_, rfl, rfl, rfl⟩; simp; omega)
  case rest =>
  obtain ⟨O, hO, rfl, rfl, rfl, rfl⟩ := hcut
  obtain ⟨N, hN⟩ : ∃ N, N = es.length - i := ⟨_, rfl⟩
  rw [← hN]
  obtain ⟨C, hC⟩ : ∃ C, C = c1 - i := ⟨_, rfl⟩
  rw [← hC]
  have HO := hide hO
  have HN := hide hN
  have HC := hide hC
  have hNC : N ≤ C := by omega
  have hN4 : N ≤ 400 := by omega
  clear hO hN hC
  go_wp2
  go_loopw [28] (fun s wr => LRelS n₀ J pre (es.drop i) W N s wr) (fun s _ => N - (intOf s).toNat)
  case atStart => exact ⟨0, Nat.zero_le _, rfl, by simpa using HJ.out pre _ _ H0.out HB2.out, HB2.out.mono hn0⟩
  case round =>
    obtain ⟨k, hk, rfl, hj, hb⟩ := hrel
    by_cases hlt : k < N
    · have hik : i + k < es.length := by have := HN.out; omega
      obtain ⟨g', o', e1, e2, e3⟩ := HAT.out wr hb (i + k) (by have := HN.out; omega)
      injection e1 with e1
      injection e1 with e1 e4
      subst e1; subst e4
      have hOk := HO.out (by have := HN.out; omega)
      have r1 : wr.cell? ⟨g, O + k * 2, none⟩ = some (.string es[i + k].1) := by rw [hOk, Nat.add_assoc, ← Nat.add_mul]; exact e2
      have r2 : wr.cell? ⟨g, O + k * 2 + 1, none⟩ = some (.string es[i + k].2) := by rw [hOk, Nat.add_assoc o, ← Nat.add_mul]; exact e3
      obtain ⟨x, hx⟩ : ∃ x, x = es[i + k] := ⟨_, rfl⟩
      rw [← hx] at r1 r2
      have hal : Below wr.heap.size wr (wr.alloc (.cells #[.string x.1, .string x.2] 68)) := (Below.refl _ _).alloc (Nat.le_refl _) _
      have m0 : (0 : Int) ≤ (k : Int) := by omega
      have m1 : (k : Int) < (N : Int) := by omega
      have hsn : (es.drop i).take (k + 1) = (es.drop i).take k ++ [x] := by
        rw [take_snoc (by rw [List.length_drop]; have := HN.out; omega), hx]
        simp
      have hpx : (pre ++ (es.drop i).take k) ++ [x] <+: L := by
        rw [List.append_assoc, ← hsn]
        exact ((List.prefix_append_right_inj _).2 (List.take_prefix _ _)).trans HL.out
      have YC := hide (HY.out _ x _ (HJ.out _ _ _ hj hal) hpx (Nat.le_trans hn0 (Nat.le_trans hb.size hal.size)))
      have HSN := hide hsn
      have HX := hide hx
      have HBR := hide hb
      clear hj hb e2 e3 hx hOk hsn hpx
      go_wp2_with (first
        | (go_at_call 141; go_loud (refine YC.out.mono ?_; rintro e w3 (⟨rfl, hj3, hb3⟩ | ⟨rfl, hx3⟩))))
      · go_roundw
        case rel =>
          refine ⟨k + 1, by omega, by go_num, ?_, HBR.out.trans (Below.from_alloc hb3 HBR.out (Nat.le_trans hn0 HBR.out.size))⟩
          rw [HSN.out, ← List.append_assoc]
          exact hj3
        case measure => simp [intOf]; omega
      · go_ret
        right
        refine ⟨rfl, (es.drop i).take k ++ [x], ?_, by rw [← List.append_assoc]; exact hx3⟩
        rw [← HSN.out]
        exact List.take_prefix _ _
    · have m1 : ¬ (k : Int) < (N : Int) := by omega
      have hkN : k = N := by omega
      have HBR := hide hb
      have HJR := hide hj
      clear hb hj
      go_wp2
      go_ret
      left
      refine ⟨rfl, ?_, HBR.out⟩
      have e : (es.drop i).take k = es.drop i := by rw [List.take_of_length_le]; rw [HDL.out, hkN, HN.out]; omega
      have := HJR.out
      rw [e] at this
      exact this

def BRelS (n₀ : Nat) (J : List (Str × Str) → World → Prop) (pre : List (Str × Str)) {h : Nat} (es : List (Str × Tr h)) (lo : Str) (W : World) (N : Nat) (s : Value) (wr : World) : Prop :=
  ∃ k : Nat, k ≤ N ∧ s = .int .i64 k ∧ J (pre ++ (es.take k).flatMap fun e => Tr.from h e.2 lo) wr ∧ Below n₀ W wr

set_option maxRecDepth 100000 in
set_option maxHeartbeats 1600000 in
theorem each_branchS (hJ : ∀ pre W W', J pre W → Below W.heap.size W W' → J pre W') {h : Nat} (n : Tr (h + 1)) (lo : Str) (b : Nat) (ds : List Nat) (pre : List (Str × Str)) (W : World) (hf : FRep (fun z => z < n₀) W (h + 1) n b ds) (h1 : 1 ≤ (Nd.es n).length) (hn : (Nd.es n).length ≤ 400) (hL : pre ++ Tr.from (h + 1) n lo <+: L) (h0 : J pre W) (hn0 : n₀ ≤ W.heap.size)
    (IH : ∀ e ∈ Nd.es n, ∀ (bc : Nat) (dc : List Nat) (pre' : List (Str × Str)) (W' : World), FRep (fun z => z < n₀) W' h e.2 bc dc → pre' ++ Tr.from h e.2 lo <+: L → J pre' W' → n₀ ≤ W'.heap.size → Calls Tryz.prog 145 #[P bc, .string lo, .func (.func 141) #[] #[.pointer (some ⟨q1, 0, none⟩), .pointer (some ⟨q2, 0, none⟩)]] W' (EPostS n₀ J Jx pre' (Tr.from h e.2 lo) W')) :
    Calls Tryz.prog 145 #[P b, .string lo, .func (.func 141) #[] #[.pointer (some ⟨q1, 0, none⟩), .pointer (some ⟨q2, 0, none⟩)]] W (EPostS n₀ J Jx pre (Tr.from (h + 1) n lo) W) := by
  obtain ⟨A1, c1, A2, c2, bs, dss, hnd, hbn, hro, hkk, hds⟩ := hf
  have hfr : Tr.from (h + 1) n lo = ((Nd.es n).drop (below lo (Nd.es n))).flatMap fun e => Tr.from h e.2 lo := rfl
  rw [hfr] at hL ⊢
  have hbb := below_bounds lo (Nd.es n) h1
  have hbsl := hkk.len.1
  have hdsl := hkk.len.2
  have LEAF := hide (leaf_no b (Nd.blk n) (Nd.gen n) (Nd.es n).length c2 (Nd.dirty n) _ A2 W hnd.node h1 (by omega))
  have BELOW := hide (fun q => below_any (Nd.es n) bs lo b (Nd.blk n) (Nd.gen n) c2 (Nd.dirty n) _ A2 (W.drewN q)
    (hnd.move (Agree.of_below (below_drewN (Below.refl W.heap.size W) q) (fun _ hx => hx)) (Blk.lt hnd.node) (rowOk.zero _ _) hnd.ks.row_lt).node
    (hnd.move (Agree.of_below (below_drewN (Below.refl W.heap.size W) q) (fun _ hx => hx)) (Blk.lt hnd.node) (rowOk.zero _ _) hnd.ks.row_lt).ks hbsl h1 (by omega))
  obtain ⟨es, hes⟩ : ∃ es, es = Nd.es n := ⟨_, rfl⟩
  rw [← hes] at hnd hkk BELOW h1 hn hro hbb hbsl hdsl IH hL ⊢
  have hat : ∀ wr, Below n₀ W wr → ∀ j (hj : j < es.length), ∃ g o, A2 = some ⟨g, o, none⟩ ∧ wr.cell? ⟨g, o + j * 2, none⟩ = some (.string es[j].1) ∧ wr.cell? ⟨g, o + j * 2 + 1, none⟩ = some (P (bs[j]'(by omega))) ∧ FRep (fun z => z < n₀) wr h es[j].2 (bs[j]'(by omega)) (dss[j]'(by omega)) := by
    intro wr hb j hj
    obtain ⟨g, o, u1, u2, hA, hu1, hu2, hc1, hc2, hgl⟩ := hnd.ks.cells_at (Below.refl W.heap.size W) hj
    have hp := kcells_at es bs j hj (by omega)
    have e1 := hu1.symm.trans hp.1
    have e2 := hu2.symm.trans hp.2
    injection e1 with e1
    injection e2 with e2
    subst e1; subst e2
    have hg0 : g < n₀ := hro (by omega) _ hA
    exact ⟨g, o, hA, (hb.cell (p := ⟨g, o + j * 2, none⟩) hg0).trans hc1, (hb.cell (p := ⟨g, o + j * 2 + 1, none⟩) hg0).trans hc2, (hkk.at_ j hj (by omega) (by omega)).move (Agree.of_below hb (fun _ hx => hx)) (fun _ hx => hx)⟩
  obtain ⟨g, o, hA, -, -, -⟩ := hat W (Below.refl _ _) 0 (by omega)
  subst hA
  have hc4 : W.cell? ⟨b, 4, none⟩ = some (.slice (some ⟨g, o, none⟩) es.length c2) := by rw [Blk.cell hnd.node]; rfl
  have hcap : es.length ≤ c2 ∧ c2 ≤ maxLen := by
    obtain ⟨_, _, _, hv, e1, e2, _⟩ := hnd.ks
    injection hv with _ _ e3
    subst e3
    exact ⟨e1, e2⟩
  obtain ⟨i, hi⟩ : ∃ i, i = below lo es := ⟨_, rfl⟩
  rw [← hi] at BELOW hbb hL ⊢
  obtain ⟨hcap1, hcap2⟩ := hcap
  have hml := hcap2
  unfold maxLen at hml
  have HAT := hide hat
  have HIH := hide IH
  have HJ := hide hJ
  have H0 := hide h0
  have HDL := hide (show (es.drop i).length = es.length - i by simp)
  have HL := hide hL
  clear hnd hkk hro hds hat IH hJ h0 hi hes hfr hL
  have k0 : (0 : Int) ≤ (i : Int) := by omega
  have k1 : (i : Int) ≤ (es.length : Int) := by omega
  have k2 : (es.length : Int) ≤ (c2 : Int) := by omega
  have k3 : (i : Int) < (c2 : Int) := by omega
  have k4 : ¬ i = c2 := by omega
  unfold P
  unfold P at LEAF BELOW
  go_enter Tryz.func145, Tryz.ntmps145
  go_upto_region 10 with (first
    | (go_at_call 81; go_loud (refine LEAF.out.mono ?_; rintro e w' ⟨rfl, rfl⟩)))
  go_quiet (first | (go_at_call 82; exact quiet_same (BELOW.out _)))
  obtain ⟨Wq, hWq⟩ : ∃ Wq, Wq = W.drewN nq := ⟨_, rfl⟩
  rw [← hWq]
  have hbq : Below W.heap.size W Wq := by rw [hWq]; exact below_drewN (Below.refl _ _) nq
  have HBQ := hide hbq
  clear hbq hWq
  obtain ⟨N, hN⟩ : ∃ N, N = es.length - i := ⟨_, rfl⟩
  rw [← hN]
  obtain ⟨C, hC⟩ : ∃ C, C = c2 - i := ⟨_, rfl⟩
  rw [← hC]
  have HN := hide hN
  have HC := hide hC
  have hNC : N ≤ C := by omega
  have hN4 : N ≤ 400 := by omega
  clear hN hC
  go_wp2
  go_loopw [46] (fun s wr => BRelS n₀ J pre (es.drop i) lo W N s wr) (fun s _ => N - (intOf s).toNat)
  case atStart => exact ⟨0, Nat.zero_le _, rfl, by simpa using HJ.out pre _ _ H0.out HBQ.out, HBQ.out.mono hn0⟩
  case round =>
    obtain ⟨k, hk, rfl, hj, hb⟩ := hrel
    by_cases hlt : k < N
    · have hik : i + k < es.length := by have := HN.out; omega
      obtain ⟨g', o', e1, e2, e3, hfk⟩ := HAT.out wr hb (i + k) hik
      injection e1 with e1
      injection e1 with e1 e4
      subst e1; subst e4
      have r1 : wr.cell? ⟨g, o + i * 2 + k * 2, none⟩ = some (.string es[i + k].1) := by rw [Nat.add_assoc, ← Nat.add_mul]; exact e2
      have r2 : wr.cell? ⟨g, o + i * 2 + k * 2 + 1, none⟩ = some (P (bs[i + k]'(by omega))) := by rw [Nat.add_assoc o, ← Nat.add_mul]; exact e3
      obtain ⟨x, hx⟩ : ∃ x, x = es[i + k] := ⟨_, rfl⟩
      obtain ⟨bc, hbc⟩ : ∃ bc, bc = bs[i + k]'(by omega) := ⟨_, rfl⟩
      rw [← hx] at r1 hfk
      rw [← hbc] at r2 hfk
      have hal : Below wr.heap.size wr (wr.alloc (.cells #[.string x.1, P bc] 139)) := (Below.refl _ _).alloc (Nat.le_refl _) _
      have hzn : n₀ ≤ wr.heap.size := Nat.le_trans hn0 hb.size
      have m0 : (0 : Int) ≤ (k : Int) := by omega
      have m1 : (k : Int) < (N : Int) := by omega
      have hsn : (es.drop i).take (k + 1) = (es.drop i).take k ++ [x] := by
        rw [take_snoc (by rw [List.length_drop]; have := HN.out; omega), hx]
        simp
      have hsp : ((es.drop i).take (k + 1)).flatMap (fun e => Tr.from h e.2 lo) = ((es.drop i).take k).flatMap (fun e => Tr.from h e.2 lo) ++ Tr.from h x.2 lo := by rw [hsn]; simp
      have hpf : ((es.drop i).take (k + 1)).flatMap (fun e => Tr.from h e.2 lo) <+: (es.drop i).flatMap (fun e => Tr.from h e.2 lo) := by
        conv => rhs; rw [← List.take_append_drop (k + 1) (es.drop i)]
        rw [List.flatMap_append]
        exact List.prefix_append _ _
      have hpx : (pre ++ ((es.drop i).take k).flatMap fun e => Tr.from h e.2 lo) ++ Tr.from h x.2 lo <+: L := by
        rw [List.append_assoc, ← hsp]
        exact ((List.prefix_append_right_inj _).2 hpf).trans HL.out
      have YC := hide (HIH.out x (by rw [hx]; exact List.getElem_mem _) bc _ _ _ (hfk.below hal (fun _ h => h)) hpx (HJ.out _ _ _ hj hal) (Nat.le_trans hzn hal.size))
      have HSP := hide hsp
      have HPF := hide hpf
      have HX := hide hx
      have HBC := hide hbc
      have HBR := hide hb
      clear hj hb e2 e3 hx hbc hsn hsp hpf hfk hpx
      unfold P at r2 YC
      go_wp2_with (first
        | (go_at_call 145; go_loud (refine YC.out.mono ?_; rintro e w3 (⟨rfl, hj3, hb3⟩ | ⟨rfl, q, hq, hx3⟩))))
      · go_roundw
        case rel =>
          refine ⟨k + 1, by omega, by go_num, ?_, HBR.out.trans (Below.from_alloc hb3 HBR.out hzn)⟩
          rw [HSP.out, ← List.append_assoc]
          exact hj3
        case measure => simp [intOf]; omega
      · go_ret
        right
        refine ⟨rfl, ((es.drop i).take k).flatMap (fun e => Tr.from h e.2 lo) ++ q, ?_, by rw [← List.append_assoc]; exact hx3⟩
        refine List.IsPrefix.trans ?_ HPF.out
        rw [HSP.out]
        exact (List.prefix_append_right_inj _).2 hq
    · have m1 : ¬ (k : Int) < (N : Int) := by omega
      have hkN : k = N := by omega
      have HBR := hide hb
      have HJR := hide hj
      clear hb hj
      go_wp2
      go_ret
      left
      refine ⟨rfl, ?_, HBR.out⟩
      have e : (es.drop i).take k = es.drop i := by rw [List.take_of_length_le]; rw [HDL.out, hkN, HN.out]; omega
      have := HJR.out
      rw [e] at this
      exact this

theorem each_anyS (hJ : ∀ pre W W', J pre W → Below W.heap.size W W' → J pre W') (hY : ∀ pre x W, J pre W → pre ++ [x] <+: L → n₀ ≤ W.heap.size → Calls Tryz.prog 141 #[.agg #[.string x.1, .string x.2], .pointer (some ⟨q1, 0, none⟩), .pointer (some ⟨q2, 0, none⟩)] W (YPostS n₀ J Jx pre x W)) (lo : Str) :
    ∀ (h : Nat) (lo0 : Str) (hi0 : Option Str) (n : Tr h) (b : Nat) (ds : List Nat) (pre : List (Str × Str)) (W : World), WF h lo0 hi0 n → Top h n → (Tr.pairs h n).length ≤ 150 → FRep (fun z => z < n₀) W h n b ds → pre ++ Tr.from h n lo <+: L → J pre W → n₀ ≤ W.heap.size →
    Calls Tryz.prog 145 #[P b, .string lo, .func (.func 141) #[] #[.pointer (some ⟨q1, 0, none⟩), .pointer (some ⟨q2, 0, none⟩)]] W (EPostS n₀ J Jx pre (Tr.from h n lo) W)
  | 0, lo0, hi0, n, b, ds, pre, W, hw, ht, hp, hf, hL, h0, hn0 => each_leafS hJ hY n lo b ds pre W hf hw.1 ht (Nat.le_trans hp (by omega)) hL h0 hn0
  | h + 1, lo0, hi0, n, b, ds, pre, W, hw, ht, hp, hf, hL, h0, hn0 => by
    obtain ⟨f1, f2, _⟩ := few_els (h + 1) lo0 hi0 n hw ht
    refine each_branchS hJ n lo b ds pre W hf f1 (Nat.le_trans f2 (by omega)) hL h0 hn0 ?_
    intro e he bc dc pre' W' hf' hL' hj' hn'
    obtain ⟨⟨hi', w1⟩, _⟩ := chain_mem (show Chain (WF h) lo0 hi0 (Nd.es n) from hw) e he
    exact each_anyS hJ hY lo h e.1 hi' e.2 bc dc pre' W' w1 (top_kid ht e he) (Nat.le_trans (kid_pairs (es := Nd.es n) e he) hp) hf' hL' hj' hn'

/-- Tree.Each. -/
theorem tEachS (hJ : ∀ pre W W', J pre W → Below W.heap.size W W' → J pre W') (hY : ∀ pre x W, J pre W → pre ++ [x] <+: L → n₀ ≤ W.heap.size → Calls Tryz.prog 141 #[.agg #[.string x.1, .string x.2], .pointer (some ⟨q1, 0, none⟩), .pointer (some ⟨q2, 0, none⟩)] W (YPostS n₀ J Jx pre x W))
    (t : Tree) (rp : Value) (ds : List Nat) (lo : Str) (W : World) (hv : TreeV (fun z => z < n₀) W t rp ds) (ht : TR t) (hp : t.pairs.length ≤ 150) (hL : fromK t lo <+: L) (h0 : J [] W) (hn0 : n₀ ≤ W.heap.size) :
    Calls Tryz.prog 105 #[treeV rp t.keys, .string lo, .func (.func 141) #[] #[.pointer (some ⟨q1, 0, none⟩), .pointer (some ⟨q2, 0, none⟩)]] W fun e W' => e = .returned (.tuple #[]) ∧ ((J (fromK t lo) W' ∧ Below n₀ W W') ∨ ∃ q, q <+: fromK t lo ∧ Jx q W') := by
  have hb0 : Below W.heap.size W (W.alloc (.cells #[rp, .int .i64 t.keys] 88)) := (Below.refl _ _).alloc (Nat.le_refl _) _
  rcases hv with ⟨hr, rfl, rfl⟩ | ⟨h, n, b, hr, rfl, hf⟩
  · have hfk : fromK t lo = [] := by unfold fromK Tree.pairs; rw [hr]; simp
    rw [hfk]
    have HJ := hide (hJ [] _ _ h0 hb0)
    have HB := hide hb0
    clear hJ hY h0 hb0
    unfold treeV
    go_enter Tryz.func105, Tryz.ntmps105
    go_wp2
    go_end0
    exact ⟨rfl, .inl ⟨HJ.out, HB.out.mono hn0⟩⟩
  · have hfk : fromK t lo = Tr.from h n lo := by
      have hpp : t.pairs = Tr.pairs h n := by unfold Tree.pairs; rw [hr]
      unfold fromK
      rw [hpp, from_pairs h noKey none n lo (ht.tw.some_ h n hr) (slt_empty lo)]
    rw [hfk] at hL ⊢
    have hpp : t.pairs = Tr.pairs h n := by unfold Tree.pairs; rw [hr]
    have HE := hide (each_anyS hJ hY lo h noKey none n b ds [] _ (ht.tw.some_ h n hr) (ht.top h n hr) (by rw [← hpp]; exact hp) (hf.below hb0 (fun _ h => h)) hL (hJ [] _ _ h0 hb0) (Nat.le_trans hn0 hb0.size))
    have HB := hide hb0
    clear hJ hY h0 hb0 hf
    unfold treeV P
    unfold P at HE
    go_enter Tryz.func105, Tryz.ntmps105
    go_wp2_with (go_at_call 145; go_loud (refine HE.out.mono ?_; rintro e w3 (⟨rfl, hj3, hb3⟩ | ⟨rfl, q, hq, hx3⟩)))
    · go_end0
      exact ⟨rfl, .inl ⟨hj3, (HB.out.mono hn0).trans hb3⟩⟩
    · go_end0
      exact ⟨rfl, .inr ⟨q, hq, hx3⟩⟩
end
end Go.Proofs.YtemondlgcmpbbaaGreatDoor

/- Walks: Txn.All over a tree. -/
namespace Go.Proofs.YtemondlgcmpbbaaGreatDoor
open Go.RowKit Go.Shelf

attribute [local go_sem] Oper.semAt_some

theorem room_none {F : Fence} (hd : F.depth = none) (k : Nat) : F.room k := fun d h => by rw [hd] at h; cases h
theorem RoundIn.any {F : Fence} (hd : F.depth = none) {m m' : Nat} {P : Program} {l : Nat} {f : FuncId} {tmps : Array Value} {assign body : Code} {w : World} {R : Ending → World → Prop}
    (h : RoundIn F m P l f tmps assign body w R) : RoundIn F m' P l f tmps assign body w R := ⟨h.1, fun c cs _ => h.2 c cs (room_none hd _)⟩
theorem YieldAt.any {F : Fence} (hd : F.depth = none) {m : Nat} (m' : Nat) {P : Program} {l : Nat} {args : Array Value} {W : World} {R : Ending → World → Prop} (h : YieldAt F m P l args W R) : YieldAt F m' P l args W R := by
  obtain ⟨fn, tmps, assign, body, hy, hR⟩ := h
  exact ⟨fn, tmps, assign, body, hy, RoundIn.any hd hR⟩

set_option maxRecDepth 100000 in
set_option maxHeartbeats 1000000 in
/-- All's function within: a pair below hi is handed on. -/
theorem all11_any {m : Nat} (l b1 b2 : Nat) (x : Str × Str) (hi : Str) (W : World) (A B : World → Prop) (hlt : slt x.1 hi = true) (h1 : Blk W b1 9 #[.string hi]) (h2 : Blk W b2 226 #[.func (.yield l) #[] #[]])
    (hY : YieldAt Fence.wide m Tryz.prog l #[.agg #[.string x.1, .string x.2], .nilIface] (W.alloc (.cells #[.string x.1, .string x.2] 68)) fun e W' => (e = .returned (.bool true) ∧ A W') ∨ (e = .returned (.bool false) ∧ B W')) :
    Calls Tryz.prog 141 #[.agg #[.string x.1, .string x.2], .pointer (some ⟨b1, 0, none⟩), .pointer (some ⟨b2, 0, none⟩)] W fun e W' => (e = .returned (.bool true) ∧ A W') ∨ (e = .returned (.bool false) ∧ B W') := by
  have c1 := fun o => cellA o (cellOf h1 0 rfl)
  have c2 := fun o => cellA o (cellOf h2 0 rfl)
  have hb : Op.bytesLess x.1.toList hi.toList = true := hlt
  obtain ⟨fn, tmps, assign, body, hy, hR⟩ := YieldAt.any rfl 2 hY
  clear h1 h2 hY hlt
  refine (callsIn_wide (n := 3)).1 ?_
  refine callsIn_of_wp Tryz.func141 rfl trivial ?_ rfl
  simp only [Tryz.ntmps141, List.size_toArray, List.length_cons, List.length_nil, Nat.reduceAdd, Nat.reduceSub, Array.replicate_succ, Array.replicate_zero, List.push_toArray, List.append_toArray, List.nil_append, List.cons_append]
  gi_wp2
  refine hR.mono ?_
  rintro e W3 (⟨rfl, h⟩ | ⟨rfl, h⟩)
  · gi_wp2
    go_ret
    exact .inl ⟨rfl, h⟩
  · gi_wp2
    go_ret
    exact .inr ⟨rfl, h⟩

/-- What a round of a loop over All keeps: what lay below n0, and every block that holds a yield or a string. -/
def KpY (n0 : Nat) (A B : World) : Prop := Below n0 A B ∧ ∀ y T cs, (T = 226 ∨ T = 9) → Blk A y T cs → Blk B y T cs
theorem KpY.trans {n0 : Nat} {A B C : World} (h : KpY n0 A B) (k : KpY n0 B C) : KpY n0 A C := ⟨h.1.trans k.1, fun y T cs hT hy => k.2 y T cs hT (h.2 y T cs hT hy)⟩
theorem KpY.put {n0 : Nat} {w : World} (hn : n0 ≤ w.heap.size) (W : World) (l : Nat) (o o' : Obj) (hl : w.heap.size ≤ l) (h : W.heap[l]? = some o) (h1 : o.isCells = false) (h2 : o.isWalk = false) : KpY n0 W (W.putObj l o') :=
  ⟨belowK_b hn W l o o' hl h h1 h2, fun y T cs _ hy => by
    have hne : y ≠ l := fun e => by
      subst e
      have hy' : W.heap[y]? = some (.cells cs T) := hy
      rw [h] at hy'
      cases hy'
      cases h1
    exact ((grownBy_putObj' W l o').block y (Blk.lt hy) (fun e => hne (by cases e; rfl))).trans hy⟩
/-- A pair, as All hands it on. -/
def encP (x : Str × Str) : Array Value := #[.agg #[.string x.1, .string x.2], .nilIface]

set_option maxRecDepth 100000 in
set_option maxHeartbeats 1600000 in
/-- All's function over a tree: all pairs from lo on come in order. -/
theorem all1_tree (t x b0 b1 b2 k : Nat) (τ : TxS) (s : DbS) (T : Tree) (ds : List Nat) (n0 : Nat) (lo hi : ByteArray) (J Jx : List (Str × Str) → World → Prop) (W : World) (hT : TxAt W t τ) (hD : DbAt W x s) (hx : τ.db = x) (hk : τ.keys = T.keys) (hok : mayC s.poi τ.done false τ.write = 0)
    (hV : TreeV (fun z => z < n0) W T τ.root ds) (hR : TR T) (hp : T.pairs.length ≤ 150) (hlt : ∀ e ∈ T.pairs, slt e.1 hi = true)
    (h0 : Blk W b0 29 #[.pointer (some ⟨t, 0, none⟩)]) (h1 : Blk W b1 9 #[.string lo]) (h2 : Blk W b2 9 #[.string hi]) (hn0 : n0 ≤ W.heap.size)
    (hJ : AbidesFrom W.heap.size J) (_hJx : AbidesFrom W.heap.size Jx) (hJ0 : J [] W)
    (hY : ∀ pre x W1, J pre W1 → pre.length < 200 → YieldAt Fence.wide 2 Tryz.prog k (encP x) W1 fun e W' => (e = .returned (.bool true) ∧ J (pre ++ [x]) W' ∧ KpY n0 W1 W') ∨ (e = .returned (.bool false) ∧ Jx (pre ++ [x]) W')) :
    Calls Tryz.prog 140 #[.func (.yield k) #[] #[], .pointer (some ⟨b0, 0, none⟩), .pointer (some ⟨b1, 0, none⟩), .pointer (some ⟨b2, 0, none⟩)] W fun e W' => (∃ v, e = .returned v) ∧ ((∃ xs, xs = fromK T lo ∧ J xs W') ∨ ∃ pre, True ∧ Jx pre W') := by
  have hmf : ∀ (fn : Fn) (first cap : Array Value) (w : World), (Instr.makeFunc fn first cap).run Tryz.prog w = .ok (.func fn first cap) w := fun _ _ _ _ => rfl
  obtain ⟨q, hq⟩ := hV.ptr
  have hbA := (Below.refl W.heap.size W).alloc (Nat.le_refl _) (.cells #[.func (.yield k) #[] #[]] 226)
  have c0 := fun o => cellA o (cellOf h0 0 rfl)
  have HS := hide (see_any t x τ s ⟨#[97, 108, 108]⟩ _ (hT.below hbA hT.lt) (hD.below hbA hD.lt) hx q hq)
  rw [hok, hq, hk] at HS
  have hLp : ∀ (pre : List (Str × Str)) y, pre ++ [y] <+: fromK T lo → y ∈ T.pairs ∧ pre.length < 200 := fun pre y hpre => by
    have hmem : y ∈ fromK T lo := hpre.subset (by simp)
    have hlen := hpre.length_le
    have hl2 : (fromK T lo).length ≤ T.pairs.length := by unfold fromK; rw [List.length_drop]; omega
    refine ⟨?_, ?_⟩
    · unfold fromK at hmem; exact List.mem_of_mem_drop hmem
    · simp only [List.length_append, List.length_cons, List.length_nil] at hlen; omega
  have hJ' : ∀ pre V V', (J pre V ∧ Blk V b2 9 #[.string hi] ∧ Blk V W.heap.size 226 #[.func (.yield k) #[] #[]]) → Below V.heap.size V V' → (J pre V' ∧ Blk V' b2 9 #[.string hi] ∧ Blk V' W.heap.size 226 #[.func (.yield k) #[] #[]]) :=
    fun pre V V' h hb => ⟨hJ pre V V' none h.1 (Below.grown hb) (fun r e => by cases e), h.2.1.below hb h.2.1.lt, h.2.2.below hb h.2.2.lt⟩
  have HE := hide (fun (We : World) (hbe : Below W.heap.size W We) (hye : Blk We W.heap.size 226 #[.func (.yield k) #[] #[]]) => tEachS (n₀ := n0) (L := fromK T lo) (J := fun pre V => J pre V ∧ Blk V b2 9 #[.string hi] ∧ Blk V W.heap.size 226 #[.func (.yield k) #[] #[]]) (Jx := Jx) (q1 := b2) (q2 := W.heap.size) hJ'
    (fun pre y V hj hpre _ => by
      obtain ⟨hm, hl⟩ := hLp pre y hpre
      have hbp : Below V.heap.size V (V.alloc (.cells #[.string y.1, .string y.2] 68)) := (Below.refl _ _).alloc (Nat.le_refl _) _
      refine (all11_any k b2 W.heap.size y hi V (fun W' => J (pre ++ [y]) W' ∧ KpY n0 (V.alloc (.cells #[.string y.1, .string y.2] 68)) W') (Jx (pre ++ [y])) (hlt y hm) hj.2.1 hj.2.2 (hY pre y _ (hJ pre V _ none hj.1 (Below.grown hbp) (fun r e => by cases e)) hl)).mono ?_
      rintro e W' (⟨rfl, hj', hk'⟩ | ⟨rfl, hjx⟩)
      · exact .inl ⟨rfl, ⟨hj', hk'.2 _ _ _ (.inr rfl) (hj.2.1.below hbp hj.2.1.lt), hk'.2 _ _ _ (.inl rfl) (hj.2.2.below hbp hj.2.2.lt)⟩, (hbp.mono (by assumption)).trans hk'.1⟩
      · exact .inr ⟨rfl, hjx⟩)
    T (.pointer q) ds lo We (((hq ▸ hV : TreeV (fun z => z < n0) W T (.pointer q) ds)).below hbe (fun _ h => h)) hR hp (List.prefix_refl _) ⟨hJ [] W We none hJ0 (Below.grown hbe) (fun r e => by cases e), h2.below hbe h2.lt, hye⟩ (Nat.le_trans hn0 hbe.size))
  unfold treeV at HE
  have HD := hide (hD.below hbA hD.lt)
  have HB := hide hbA
  have H1 := hide (h1.below hbA h1.lt)
  have HYB := hide (Blk.new W 226 #[.func (.yield k) #[] #[]])
  clear hT hD h0 h1 hbA hJ _hJx hJ0 hY hV hR hp hlt hLp hJ'
  go_enter Tryz.func140, Tryz.ntmps140
  go_wp2_with (first
    | (go_at_call 66; go_loud (
       refine HS.out.mono ?_; rintro e w1 ⟨v, rfl, hv, hd1, ht1, ho1⟩
       have hb1 := ho1.back HD.out hd1
       obtain rfl : v = .nilIface := by
         rcases hv with h | h
         · exact h.2
         · exact absurd rfl h.1
       have e1 := fun o => cellA o (cellOf (H1.out.below hb1 H1.out.lt) 0 rfl)
       have HB1 := hide hb1
       clear hb1 hv hd1 ht1 ho1))
    | (go_at_call 105; go_loud (
       refine (HE.out _ ((HB.out.trans (HB1.out.mono (by simp))).alloc (Nat.le_trans (Nat.le_of_lt HYB.out.lt) (Nat.le_trans (Nat.le_of_eq rfl) HB1.out.size) |> fun h => by simpa using Nat.le_of_lt (Nat.lt_of_lt_of_le HYB.out.lt HB1.out.size)) _) ((HYB.out.below HB1.out HYB.out.lt).alloc _)).mono ?_; rintro e w3 ⟨rfl, h3⟩)))
  go_end0
  refine ⟨⟨_, rfl⟩, ?_⟩
  rcases h3 with ⟨h3, _⟩ | ⟨q', _, h3⟩
  · exact .inl ⟨_, rfl, h3.1⟩
  · exact .inr ⟨q', trivial, h3⟩
end Go.Proofs.YtemondlgcmpbbaaGreatDoor
