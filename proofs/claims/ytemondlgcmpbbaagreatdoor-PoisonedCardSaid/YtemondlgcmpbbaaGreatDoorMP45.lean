/- The law Poisoned: lifted; its row. -/
import Derived.Test.YtemondlgcmpbbaaGreatDoorMP37
import Derived.Test.YtemondlgcmpbbaaGreatDoorMP44
import Derived.Test.YtemondlgcmpbbaaGreatDoorMP39
import Derived.ChangeMaps5
namespace Go.Proofs.YtemondlgcmpbbaaGreatDoor
open Go.ChangeShapes Go.WideShapes Go.RowKit Go.Deep
set_option maxRecDepth 100000
theorem zmt (os : Os) (started : os.Started) (H : Type) (enc : TypeId × Value -> H) :
   ReturnsInHanded {} Tryz.checked os 10 .any (fun w args => (Rows.poisonedSpec.pre enc Tryz.prog Tryz.f10 [] false w args /\ laidMetH Tryz.prog zju w) /\ sizedMet enc Tryz.prog Tryz.f10 (OpenSpec.ofChange Rows.poisonedSpec) false w args)
    (Rows.poisonedSpec.post enc Tryz.prog Tryz.f10 false true false false) := by
 refine returnsInHanded_of_change_and (C := Tryz.checked) (X := fun w _ => laidMetH Tryz.prog zju w) (fun _ _ _ hh h => h.of_heap hh) z3j started (by kernel_rfl) Tryz.func10
  (ChangeSpec.witness_at (enc := enc) (C := Tryz.checked) (os := os) (X := fun w _ => laidMetH Tryz.prog zju w) false (zod os) #[.int .i64 0, .int .i64 0, .int .i64 0, .int .i64 0, .slice none 0 0] 8 rfl (by kernel_rfl) (by kernel_rfl) (by kernel_rfl) (by kernel_rfl) (by kernel_rfl) (zop os _)) ?_
 intro W base args ds gs before hval0 hW _ _ hL _
 have hW' := hW
 obtain ⟨p, q, hA0, hV, rfl, _, _⟩ := hW
 have hA : DataW.TrodAll enc Tryz.prog W 0 (fun _ => true) true Tryz.f10.params.toList args.toList ds p := hA0
 rw [Tryz.params10] at hA
 obtain ⟨v0, v1, v2, v3, v4, d0, d1, d2, d3, d4, p0, p1, p2, p3, p4, rfl, rfl, rfl, h0, h1, h2, h3, h4⟩ := zq2 hA
 obtain ⟨rfl, rfl⟩ := trodVars_none hV
 have hval : ∀ (j : Nat) t v, Tryz.f10.params[j]? = some t -> #[v0, v1, v2, v3, v4][j]? = some v -> Value.okWide Tryz.prog W .any base t v := hval0
 obtain ⟨n0, rfl, rfl, rfl, wf0⟩ := open_int Tryz.underlying3 (hval 0 3 v0 (by rw [Tryz.params10]; rfl) rfl) h0
 obtain ⟨n1, rfl, rfl, rfl, wf1⟩ := open_int Tryz.underlying3 (hval 1 3 v1 (by rw [Tryz.params10]; rfl) rfl) h1
 obtain ⟨n2, rfl, rfl, rfl, wf2⟩ := open_int Tryz.underlying3 (hval 2 3 v2 (by rw [Tryz.params10]; rfl) rfl) h2
 obtain ⟨n3, rfl, rfl, rfl, wf3⟩ := open_int Tryz.underlying3 (hval 3 3 v3 (by rw [Tryz.params10]; rfl) rfl) h3
 have hk4 := h4
 obtain ⟨fuel4, hf4⟩ := h4
 obtain ⟨A4, m4, c4, rfl⟩ := okWide_slice Tryz.underlying51 (hval 4 51 v4 (by rw [Tryz.params10]; rfl) rfl)
 obtain ⟨zs4, hz4⟩ := zu2 hf4
 clear hA0 hval0 hval
 simp only [List.append_nil, List.nil_append] at hW'
 have hlt : ∀ x ∈ p4, x.block < W.heap.size := fun x hx => by simpa using hW'.lt x hx
 have harg : ∀ W' : World, Below W.heap.size W W' -> DataW.Trod enc Tryz.prog W' 0 (fun b => decide (b < W.heap.size)) true 51 (.slice A4 m4 c4) d4 p4 :=
  fun W' hn => Below.trod zye (by kernel_rfl) (of_decide_eq_true (by kernel_rfl)) hk4 hn hlt
 refine (zq5 n0 n1 n2 n3 A4 m4 c4 zs4 W (zf7 wf0) (zf7 wf1) (zf7 wf2) (zf7 wf3) hz4 (zq0 hL)).mono fun e W' ⟨he, hnx⟩ => ?_
 subst he
 refine ⟨_, rfl, _, _, _, [], p4, [], hW', ?_, ?_, rfl, hnx.frame _, fun h => by cases h⟩
 . exact trodAll_mk1 (shut_bool Tryz.underlying4 true)
 . exact zr6 (shut_int Tryz.underlying3 wf0) (shut_int Tryz.underlying3 wf1) (shut_int Tryz.underlying3 wf2) (shut_int Tryz.underlying3 wf3) (harg _ hnx)
theorem poisoned_q1 : laidOutB Tryz.pinned.checked.prog = true ∧ mapsRowed Tryz.pinned.checked.prog = true := ⟨by kernel_rfl, by kernel_rfl⟩
theorem poisoned_q2 : (Rows.poisonedRow.inPlace == Tryz.pinned.checked.prog.inPlace 10) = true ∧ (Rows.poisonedRow.unfollowed == Tryz.pinned.checked.prog.unfollowed 10) = true ∧ (Rows.poisonedRow.recurses == Tryz.pinned.checked.prog.recurses 10) = true ∧ (Rows.poisonedRow.named == Tryz.pinned.checked.prog.varsNamed 10) = true :=
  ⟨by kernel_rfl, by kernel_rfl, by kernel_rfl, by kernel_rfl⟩
theorem poisoned_q3 : Tryz.pinned.checked.prog.mayEnter = true := by kernel_rfl
theorem poisoned_q4 : (Rows.poisonedRow.lifted == Tryz.pinned.checked.prog.liftsFinal) = true := by kernel_rfl
theorem poisoned_q5 : (Tryz.pinned.checked.prog.make == some Rows.poisonedRow.make) = true := by kernel_rfl
theorem poisoned_q6 : joinedFacts Tryz.pinned.checked.prog 10 Tryz.f10 Rows.poisonedSpec Rows.poisonedRow = true := by
  have am : ∀ {a b : Bool}, a = true → b = true → (a && b) = true := fun h k => by rw [h, k]; rfl
  unfold joinedFacts
  repeat' with_reducible apply am
  all_goals first | with_reducible exact poisoned_q1.1 | with_reducible exact poisoned_q1.2 | with_reducible exact poisoned_q2.1 | with_reducible exact poisoned_q2.2.1 | with_reducible exact poisoned_q2.2.2.1 | with_reducible exact poisoned_q2.2.2.2 | with_reducible exact poisoned_q3 | with_reducible exact poisoned_q4 | with_reducible exact poisoned_q5 | kernel_rfl
theorem znc : Rows.PoisonedSaid :=
 OpenClaim.holds_of_wide 10 Tryz.f10 rfl rfl rfl rfl rfl rfl rfl ⟨rfl, rfl, rfl, rfl, rfl⟩ rfl rfl rfl rfl rfl (by kernel_rfl) Tryz.func10 poisoned_q6
  (of_decide_eq_true (by kernel_rfl)) (by unfold Func.isWrapper; rw [if_neg (of_decide_eq_false (by kernel_rfl))]; exact ⟨rfl, rfl⟩)
  (fun os started H enc _ => zmt os started H enc)
end Go.Proofs.YtemondlgcmpbbaaGreatDoor
