/- The law Either: lifted; its row. -/
import Derived.Test.YtemondlgcmpbbaaGreatDoorME37
import Derived.Test.YtemondlgcmpbbaaGreatDoorME42
import Derived.Test.YtemondlgcmpbbaaGreatDoorME39
import Derived.ChangeMaps5
namespace Go.Proofs.YtemondlgcmpbbaaGreatDoor
open Go.ChangeShapes Go.WideShapes Go.RowKit Go.Deep
set_option maxRecDepth 100000
theorem zl8 (os : Os) (started : os.Started) (H : Type) (enc : TypeId × Value -> H) :
   ReturnsInHanded {} Tryz.checked os 8 .any (fun w args => (Rows.eitherSpec.pre enc Tryz.prog Tryz.f8 [] false w args /\ laidMetH Tryz.prog tLaid w) /\ sizedMet enc Tryz.prog Tryz.f8 (OpenSpec.ofChange Rows.eitherSpec) false w args)
     (Rows.eitherSpec.post enc Tryz.prog Tryz.f8 false true false false) := by
 refine returnsInHanded_of_change_and (C := Tryz.checked) (X := fun w _ => laidMetH Tryz.prog tLaid w) (fun _ _ _ hh h => h.of_heap hh) tOwn started (by kernel_rfl) Tryz.func8
   (ChangeSpec.witness_at (enc := enc) (C := Tryz.checked) (os := os) (X := fun w _ => laidMetH Tryz.prog tLaid w) false (laidWorld os) #[.int .i64 0, .int .i64 0, .int .i64 0, .int .i64 0, .slice none 0 0] 8 rfl (by kernel_rfl) (by kernel_rfl) (by kernel_rfl) (by kernel_rfl) (by kernel_rfl) (zl5 os _)) ?_
 intro W base args ds gs before hval0 hW _ _ hL _
 have hW' := hW
 obtain ⟨p, q, hA0, hV, rfl, _, _⟩ := hW
 have hA : DataW.TrodAll enc Tryz.prog W 0 (fun _ => true) true Tryz.f8.params.toList args.toList ds p := hA0
 rw [Tryz.params8] at hA
 obtain ⟨v0, v1, v2, v3, v4, d0, d1, d2, d3, d4, p0, p1, p2, p3, p4, rfl, rfl, rfl, h0, h1, h2, h3, h4⟩ := zob hA
 obtain ⟨rfl, rfl⟩ := trodVars_none hV
 have hval : ∀ (j : Nat) t v, Tryz.f8.params[j]? = some t -> #[v0, v1, v2, v3, v4][j]? = some v -> Value.okWide Tryz.prog W .any base t v := hval0
 obtain ⟨n0, rfl, rfl, rfl, wf0⟩ := open_int Tryz.underlying3 (hval 0 3 v0 (by rw [Tryz.params8]; rfl) rfl) h0
 obtain ⟨n1, rfl, rfl, rfl, wf1⟩ := open_int Tryz.underlying3 (hval 1 3 v1 (by rw [Tryz.params8]; rfl) rfl) h1
 obtain ⟨n2, rfl, rfl, rfl, wf2⟩ := open_int Tryz.underlying3 (hval 2 3 v2 (by rw [Tryz.params8]; rfl) rfl) h2
 obtain ⟨n3, rfl, rfl, rfl, wf3⟩ := open_int Tryz.underlying3 (hval 3 3 v3 (by rw [Tryz.params8]; rfl) rfl) h3
 have hk4 := h4
 obtain ⟨fuel4, hf4⟩ := h4
 obtain ⟨A4, m4, c4, rfl⟩ := okWide_slice Tryz.underlying51 (hval 4 51 v4 (by rw [Tryz.params8]; rfl) rfl)
 obtain ⟨zs4, hz4⟩ := zr3 hf4
 clear hA0 hval0 hval
 simp only [List.append_nil, List.nil_append] at hW'
 have hlt : ∀ x ∈ p4, x.block < W.heap.size := fun x hx => by simpa using hW'.lt x hx
 have harg : ∀ W' : World, Below W.heap.size W W' -> DataW.Trod enc Tryz.prog W' 0 (fun b => decide (b < W.heap.size)) true 51 (.slice A4 m4 c4) d4 p4 :=
   fun W' hn => Below.trod zvb (by kernel_rfl) (of_decide_eq_true (by kernel_rfl)) hk4 hn hlt
 refine (zr7 n0 n1 n2 n3 A4 m4 c4 zs4 W (zeb wf0) (zeb wf1) (zeb wf2) (zeb wf3) hz4 (zn9 hL)).mono fun e W' ⟨he, hnx⟩ => ?_
 subst he
 refine ⟨_, rfl, _, _, _, [], p4, [], hW', ?_, ?_, rfl, hnx.frame _, fun h => by cases h⟩
 . exact trodAll_mk1 (shut_bool Tryz.underlying4 true)
 . exact zpd (shut_int Tryz.underlying3 wf0) (shut_int Tryz.underlying3 wf1) (shut_int Tryz.underlying3 wf2) (shut_int Tryz.underlying3 wf3) (harg _ hnx)
theorem either_q1 : laidOutB Tryz.pinned.checked.prog = true ∧ mapsRowed Tryz.pinned.checked.prog = true := ⟨by kernel_rfl, by kernel_rfl⟩
theorem either_q2 : (Rows.eitherRow.inPlace == Tryz.pinned.checked.prog.inPlace 8) = true ∧ (Rows.eitherRow.unfollowed == Tryz.pinned.checked.prog.unfollowed 8) = true ∧ (Rows.eitherRow.recurses == Tryz.pinned.checked.prog.recurses 8) = true ∧ (Rows.eitherRow.named == Tryz.pinned.checked.prog.varsNamed 8) = true :=
  ⟨by kernel_rfl, by kernel_rfl, by kernel_rfl, by kernel_rfl⟩
theorem either_q3 : Tryz.pinned.checked.prog.mayEnter = true := by kernel_rfl
theorem either_q4 : (Rows.eitherRow.lifted == Tryz.pinned.checked.prog.liftsFinal) = true := by kernel_rfl
theorem either_q5 : (Tryz.pinned.checked.prog.make == some Rows.eitherRow.make) = true := by kernel_rfl
theorem either_q6 : joinedFacts Tryz.pinned.checked.prog 8 Tryz.f8 Rows.eitherSpec Rows.eitherRow = true := by
  have am : ∀ {a b : Bool}, a = true → b = true → (a && b) = true := fun h k => by rw [h, k]; rfl
  unfold joinedFacts
  repeat' with_reducible apply am
  all_goals first | with_reducible exact either_q1.1 | with_reducible exact either_q1.2 | with_reducible exact either_q2.1 | with_reducible exact either_q2.2.1 | with_reducible exact either_q2.2.2.1 | with_reducible exact either_q2.2.2.2 | with_reducible exact either_q3 | with_reducible exact either_q4 | with_reducible exact either_q5 | kernel_rfl
theorem zoc : Rows.EitherSaid :=
 OpenClaim.holds_of_wide 8 Tryz.f8 rfl rfl rfl rfl rfl rfl rfl ⟨rfl, rfl, rfl, rfl, rfl⟩ rfl rfl rfl rfl rfl (by kernel_rfl) Tryz.func8 either_q6
   (of_decide_eq_true (by kernel_rfl)) (by unfold Func.isWrapper; rw [if_neg (of_decide_eq_false (by kernel_rfl))]; exact ⟨rfl, rfl⟩)
   (fun os started H enc _ => zl8 os started H enc)
end Go.Proofs.YtemondlgcmpbbaaGreatDoor
