/- Lg Cl: merged. -/
import Derived.Test.YtemondlgcmpbbaaGreatDoorRows
import Derived.Test.YtemondlgcmpbbaaGreatDoorMC08
import Derived.Test.YtemondlgcmpbbaaGreatDoorMC09
import Derived.ChangeSame
import Derived.ChangeVars
import Derived.JoinedOf
import Derived.RowKit
import Derived.RowKitTokens
import Derived.LaidLaws
import Derived.LaidHandle
import Derived.Stop.Joined
import Derived.Carry
import Derived.Deep.Slices
import Derived.ProofKit
import Derived.Test.YtemondlgcmpbbaaGreatDoorMC43
/- For the cards of the laws whose arguments are numbers: the laid variable; the world that meets the condition. -/
namespace Go.Proofs.YtemondlgcmpbbaaGreatDoor
open Go.ChangeShapes Go.WideShapes Go.RowKit Go.Deep

theorem tOwn : ownKnob Tryz.prog.godebug = none := by kernel_rfl
theorem tEt : Tryz.prog.globalNamed "errors.errorType" = some 0 := by kernel_rfl
theorem tRt : (Tryz.prog.cutTypes.find? (·.1 == "internal/reflectlite.rtype")).map (·.2) = some 214 := by kernel_rfl
theorem tSize : Tryz.prog.types.size = 331 := by kernel_rfl
theorem tOneRow : ((List.range 331).filter fun t => Tryz.prog.rowNamed t [101, 114, 114, 111, 114]) = [31] := by kernel_rfl
theorem tLaidOut : laidOutB Tryz.prog = true := by kernel_rfl

def tLaid : List (String × DataW Unit) := [("errors.errorType", Rows.laid_errors_errorType)]
/-- What the condition gives a walk. -/
theorem glob_of_laid {W : World} (h : laidMetH Tryz.prog tLaid W) : Glob W := by
  have h' : laidMet Tryz.prog [] W ∧ handlesMet Tryz.prog tLaid W := h
  obtain ⟨name, u, ty, e1, e2, e3, e4, e5⟩ := h'.2 _ (List.mem_singleton.2 rfl)
  have en : name = [101, 114, 114, 111, 114] := (Option.some.inj e1).symm
  subst en
  obtain rfl := Option.some.inj (tRt.symm.trans e2)
  have hm : ty ∈ (List.range 331).filter fun t => Tryz.prog.rowNamed t [101, 114, 114, 111, 114] := List.mem_filter.2 ⟨List.mem_range.2 (by rw [← tSize]; exact e3), e4⟩
  rw [tOneRow] at hm
  obtain rfl := List.mem_singleton.1 hm
  have hh : typeHandle Tryz.prog 31 = .pointer (some ⟨1, 31, none⟩) := by kernel_rfl
  rw [hh] at e5
  unfold Glob
  simpa using World.var?_cell tEt e5 0

/-- A world that meets the condition: the settled one, the variable's cell laid. -/
noncomputable def laidWorld (os : Os) : World :=
  let w0 := World.holding Tryz.prog os ⟨#[], #[], []⟩
  { w0 with heap := w0.heap.modify 0 fun
      | .cells _ t frozen => .cells #[.iface 214 (.agg #[.pointer (some ⟨1, 31, none⟩)])] t frozen
      | o => o }
theorem laidWorld_met (os : Os) (args : Array Value) : laidMetH Tryz.prog tLaid ((laidWorld os).forCall (fun _ _ => 0) ⟨#[], args, []⟩).memory :=
  laidMetH_of_parts (laidMet_nil _ _) (by kernel_rfl)

theorem I64_of_wf {n : Int} (h : (Lit.int .i64 n).wf = true) : I64 n := by
  simp only [Lit.wf, Bool.and_eq_true, IntKind.min, IntKind.max] at h
  exact ⟨by have := h.1; simpa [IntKind.signed, IntKind.bits] using this, by have := h.2; simpa [IntKind.signed, IntKind.bits] using this⟩

end Go.Proofs.YtemondlgcmpbbaaGreatDoor

/- The law Cheap: lifted; its row. -/
namespace Go.Proofs.YtemondlgcmpbbaaGreatDoor
open Go.ChangeShapes Go.WideShapes Go.RowKit Go.Deep

set_option maxRecDepth 100000 in
theorem cheap_lifted (os : Os) (started : os.Started) (H : Type) (enc : TypeId × Value → H) :
    ReturnsInHanded {} Tryz.checked os 3 .any (fun w args => (Rows.cheapSpec.pre enc Tryz.prog Tryz.f3 [] false w args ∧ laidMetH Tryz.prog tLaid w) ∧ sizedMet enc Tryz.prog Tryz.f3 (OpenSpec.ofChange Rows.cheapSpec) false w args)
      (Rows.cheapSpec.post enc Tryz.prog Tryz.f3 false true false false) := by
  refine returnsInHanded_of_change_and (C := Tryz.checked) (X := fun w _ => laidMetH Tryz.prog tLaid w) (fun _ _ _ hh h => h.of_heap hh) tOwn started (by kernel_rfl) Tryz.func3
    (ChangeSpec.witness_at (enc := enc) (C := Tryz.checked) (os := os) (X := fun w _ => laidMetH Tryz.prog tLaid w) false (laidWorld os) #[.int .i64 0, .int .i64 0] 8 rfl (by kernel_rfl) (by kernel_rfl) (by kernel_rfl) (by kernel_rfl) (by kernel_rfl) (laidWorld_met os _)) ?_
  intro W base args ds gs before hval0 hW _ _ hL _
  have hW' := hW
  obtain ⟨p, q, hA0, hV, rfl, _, _⟩ := hW
  have hA : DataW.TrodAll enc Tryz.prog W 0 (fun _ => true) true Tryz.f3.params.toList args.toList ds p := hA0
  rw [Tryz.params3] at hA
  obtain ⟨v0, v1, d0, d1, p0, p1, rfl, rfl, rfl, h0, h1⟩ := trodAll_two hA
  obtain ⟨rfl, rfl⟩ := trodVars_none hV
  have hval : ∀ (j : Nat) t v, Tryz.f3.params[j]? = some t → #[v0, v1][j]? = some v → Value.okWide Tryz.prog W .any base t v := hval0
  obtain ⟨n0, rfl, rfl, rfl, wf0⟩ := open_int Tryz.underlying3 (hval 0 3 v0 (by rw [Tryz.params3]; rfl) rfl) h0
  obtain ⟨n1, rfl, rfl, rfl, wf1⟩ := open_int Tryz.underlying3 (hval 1 3 v1 (by rw [Tryz.params3]; rfl) rfl) h1
  clear hA0 hval0 hval
  simp only [List.append_nil] at hW'
  refine (cheap_any n0 n1 W (I64_of_wf wf0) (I64_of_wf wf1)).mono fun e W' ⟨he, hnx⟩ => ?_
  subst he
  refine ⟨_, rfl, _, _, _, [], [], [], hW', ?_, ?_, rfl, hnx.frame _, fun h => by cases h⟩
  · exact trodAll_mk1 (shut_bool Tryz.underlying4 true)
  · exact trodAll_mk2 (shut_int Tryz.underlying3 wf0) (shut_int Tryz.underlying3 wf1)

theorem cheap_q1 : laidOutB Tryz.pinned.checked.prog = true ∧ mapsRowed Tryz.pinned.checked.prog = true := ⟨by kernel_rfl, by kernel_rfl⟩
theorem cheap_q2 : (Rows.cheapRow.inPlace == Tryz.pinned.checked.prog.inPlace 3) = true ∧ (Rows.cheapRow.unfollowed == Tryz.pinned.checked.prog.unfollowed 3) = true ∧ (Rows.cheapRow.recurses == Tryz.pinned.checked.prog.recurses 3) = true ∧ (Rows.cheapRow.named == Tryz.pinned.checked.prog.varsNamed 3) = true :=
  ⟨by kernel_rfl, by kernel_rfl, by kernel_rfl, by kernel_rfl⟩
theorem cheap_q3 : Tryz.pinned.checked.prog.mayEnter = true := by kernel_rfl
theorem cheap_q4 : (Rows.cheapRow.lifted == Tryz.pinned.checked.prog.liftsFinal) = true := by kernel_rfl
theorem cheap_q5 : (Tryz.pinned.checked.prog.make == some Rows.cheapRow.make) = true := by kernel_rfl
theorem cheap_q6 : joinedFacts Tryz.pinned.checked.prog 3 Tryz.f3 Rows.cheapSpec Rows.cheapRow = true := by
  have am : ∀ {a b : Bool}, a = true → b = true → (a && b) = true := fun h k => by rw [h, k]; rfl
  unfold joinedFacts
  repeat' with_reducible apply am
  all_goals first | with_reducible exact cheap_q1.1 | with_reducible exact cheap_q1.2 | with_reducible exact cheap_q2.1 | with_reducible exact cheap_q2.2.1 | with_reducible exact cheap_q2.2.2.1 | with_reducible exact cheap_q2.2.2.2 | with_reducible exact cheap_q3 | with_reducible exact cheap_q4 | with_reducible exact cheap_q5 | kernel_rfl
theorem cheap_holds : Rows.CheapSaid :=
  OpenClaim.holds_of_wide 3 Tryz.f3 rfl rfl rfl rfl rfl rfl rfl ⟨rfl, rfl, rfl, rfl, rfl⟩ rfl rfl rfl rfl rfl (by kernel_rfl) Tryz.func3 cheap_q6
    (of_decide_eq_true (by kernel_rfl)) (by unfold Func.isWrapper; rw [if_neg (of_decide_eq_false (by kernel_rfl))]; exact ⟨rfl, rfl⟩)
    (fun os started H enc _ => cheap_lifted os started H enc)
end Go.Proofs.YtemondlgcmpbbaaGreatDoor
