/-
  THE SHELL OF A PROOF OF 'Rows.NamesSaid' ('shadow/shadowlaw.Names'), WRITTEN BY PROGRAM (proof-skeleton.mjs) off the guide's own print for that function. Not trusted: Lean checks it.
  YOURS ARE THE HOLES MARKED 'HOLE' (each bears 'sorry'). ALL ELSE IS THE GUIDE's TEMPLATE (howto/template/XProofs.lean) at this function's number and types: leave it.
-/
import Derived.Test.YthkhenekegpehaaRows
import Derived.WalkKit
import Derived.ProofKit
import Derived.OpenShut
import Derived.Lib.Hide
import Derived.Deep.QuietTactic
import Derived.BigQuiet
namespace Go.Proofs.Ythkhenekegpehaa.names
open Go.ChangeShapes Go.WideShapes Go.ChangeAt Go.RowKit
set_option linter.unusedVariables false      -- a walk need not use every 'w<i>' (that an integer argument fits its kind)

theorem own : ownKnob Try.prog.godebug = none := by kernel_rfl

/-- 'num' hands its number back. -/
theorem num_any (n : Int) (w : World) (h0 : 0 ≤ n) (h1 : n ≤ 100) : Calls Try.prog 4 #[.int .i64 n] w fun e w' => e = .returned (.int .i64 n) ∧ w = w' := by
  go_enter Try.func4, Try.ntmps4
  go_wp2
  go_ret
  exact ⟨rfl, rfl⟩

def said : List Int := [128, 32, 8, 400, 8, 12, 4]

/-! ### STEP 1: THE WALK: the Go text returns true. -/
theorem walk  (w : World) :
    Calls Try.prog 3 #[] w fun e w' => e = .returned (.bool true) ∧ Grown w w' := by
  go_enter Try.func3, Try.ntmps3
  go_wp2
  go_loop [5] (fun i => ∃ k : Nat, k ≤ 12 ∧ i = .int .i64 k) (fun i => 12 - (intOf i).toNat)
  case atStart => exact ⟨0, by omega, rfl⟩
  case round =>
    obtain ⟨k, hk, rfl⟩ := hrel
    obtain rfl | rfl | rfl | rfl | rfl | rfl | rfl | rfl | rfl | rfl | rfl | rfl | rfl : k = 0 ∨ k = 1 ∨ k = 2 ∨ k = 3 ∨ k = 4 ∨ k = 5 ∨ k = 6 ∨ k = 7 ∨ k = 8 ∨ k = 9 ∨ k = 10 ∨ k = 11 ∨ k = 12 := by omega
    case' inr.inr.inr.inr.inr.inr.inr.inr.inr.inr.inr.inr =>
      go_wp2
      go_loopw [7] (fun i wr => (∃ k : Nat, k ≤ 7 ∧ i = .int .i64 k) ∧ Grown w wr ∧ (∀ j, j < 7 → wr.cell? ⟨w.heap.size + 1, j, none⟩ = some (.int .i64 (said.getD j 0)) ∧ wr.cell? ⟨w.heap.size + 1 + 1, j, none⟩ = some (.int .i64 (said.getD j 0)))) (fun i _ => 7 - (intOf i).toNat)
      case atStart =>
        refine ⟨⟨0, by omega, rfl⟩, by repeat (first | exact Grown.refl _ | apply Grown.drew | apply Grown.alloc), ?_⟩
        intro j hj
        obtain rfl | rfl | rfl | rfl | rfl | rfl | rfl : j = 0 ∨ j = 1 ∨ j = 2 ∨ j = 3 ∨ j = 4 ∨ j = 5 ∨ j = 6 := by omega
        all_goals (constructor <;> simp [go_sem, said])
      case round =>
        obtain ⟨⟨k, hk, rfl⟩, hg, hc⟩ := hrel
        obtain rfl | rfl | rfl | rfl | rfl | rfl | rfl | rfl : k = 0 ∨ k = 1 ∨ k = 2 ∨ k = 3 ∨ k = 4 ∨ k = 5 ∨ k = 6 ∨ k = 7 := by omega
        case' inr.inr.inr.inr.inr.inr.inr =>
          clear hc
          go_wp2
          go_ret
          exact ⟨rfl, hg⟩
        case' inl => have c := hc 0 (by decide)
        case' inr.inl => have c := hc 1 (by decide)
        case' inr.inr.inl => have c := hc 2 (by decide)
        case' inr.inr.inr.inl => have c := hc 3 (by decide)
        case' inr.inr.inr.inr.inl => have c := hc 4 (by decide)
        case' inr.inr.inr.inr.inr.inl => have c := hc 5 (by decide)
        case' inr.inr.inr.inr.inr.inr.inl => have c := hc 6 (by decide)
        all_goals
          obtain ⟨c1, c2⟩ := c
          have HC := Lib.hid hc
          clear hc
          simp only [said, List.getD_cons_succ, List.getD_cons_zero] at c1 c2
          go_wp2
          go_quiet (fail)
          go_wp2
          go_roundw
          case rel => exact ⟨⟨_, by decide, rfl⟩, hg, fun j hj => by simpa [go_sem] using HC.out j hj⟩
          case measure => simp [intOf]
    all_goals
      go_wp2_with (go_at_call 4; refine (num_any _ _ (by omega) (by omega)).mono ?_; rintro e w' ⟨rfl, rfl⟩)
      go_round
      case rel => exact ⟨_, by decide, rfl⟩
      case measure => simp [intOf]

/-! ### THE ROW's STEP: WRITTEN OUT: LEAVE IT -/
set_option maxRecDepth 100000 in
theorem lifted (os : Os) (started : os.Started) (H : Type) (enc : TypeId × Value → H) :
    ReturnsInHanded {} Try.checked os 3 .any (Rows.namesSpec.pre6 enc Try.prog Try.f3 Rows.namesRow.domain false) (Rows.namesSpec.post enc Try.prog Try.f3 false true false false) := by
  refine returnsInHanded_of_change (C := Try.checked) own started (by kernel_rfl) Try.func3
    (ChangeSpec.witness6 (enc := enc) (C := Try.checked) false ⟨#[], #[], []⟩ 8 (by kernel_rfl) (by kernel_rfl) (by kernel_rfl) (by kernel_rfl)) ?_
  intro W base args ds gs before hval0 hW hcnd _
  have hval : ∀ (j : Nat) t v, Try.f3.params[j]? = some t → args[j]? = some v → Value.okWide Try.prog W .any base t v := hval0
  have hW' := hW
  obtain ⟨p, q, hA0, hV, rfl, hfz, hnd⟩ := hW
  have hA : DataW.TrodAll enc Try.prog W 0 (fun _ => true) true Try.f3.params.toList args.toList ds p := hA0
  rw [Try.params3] at hA hval
  obtain ⟨rfl, rfl, rfl⟩ := trodAll_none hA
  obtain ⟨rfl, rfl⟩ := trodVars_none hV
  clear hA0 hval0
  simp only [List.append_nil] at hW'
  refine (walk  W).mono fun e W' ⟨he, hg⟩ => ?_
  subst he
  exact ⟨_, rfl, post_of_same (pa := []) (pv := []) hW' (fun _ _ _ => (trodAll_cons_mk (shut_bool Try.underlying4 _) trodAll_mk0)) (fun sp _ => rfl) (fun _ _ => rfl) rfl
    (hg.frame _) hg.2.1 (ok_one (by kernel_rfl) rfl (okWide_bool_mk Try.underlying4 _))⟩

theorem over : Rows.namesRow.holds Try.pinned (OpenSpec.ofChange Rows.namesSpec) :=
  OpenClaim.holds_of_wide 3 Try.f3 rfl rfl rfl rfl rfl rfl rfl ⟨rfl, rfl, rfl, rfl, rfl⟩ rfl rfl rfl rfl rfl (by kernel_rfl) Try.func3 (by kernel_rfl)
    (of_decide_eq_true (by kernel_rfl)) (by unfold Func.isWrapper; first | (rw [if_pos (by decide +kernel)]; kernel_rfl) | (rw [if_neg (by decide +kernel)]; exact ⟨rfl, rfl⟩))
    (fun os started H enc _ => lifted os started H enc)

/-- ████ THE STATEMENT ████ -/
theorem proved : Rows.NamesSaid :=
  over
#print axioms proved
end Go.Proofs.Ythkhenekegpehaa.names
