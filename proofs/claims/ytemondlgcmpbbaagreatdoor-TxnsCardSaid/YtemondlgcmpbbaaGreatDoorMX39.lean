/- The law Txns: lifted; its row. -/
import Derived.Test.YtemondlgcmpbbaaGreatDoorMX37
import Derived.Test.YtemondlgcmpbbaaGreatDoorMX42
import Derived.ChangeSame
import Derived.ChangeVars
import Derived.JoinedOf
import Derived.RowKit
import Derived.RowKitTokens
import Derived.LaidLaws
import Derived.LaidHandle
import Derived.Stop.Joined
import Derived.Carry
import Derived.Deep.Slices
import Derived.ProofKit
namespace Go.Proofs.YtemondlgcmpbbaaGreatDoor
open Go.ChangeShapes Go.WideShapes Go.RowKit Go.Deep
set_option maxRecDepth 100000
theorem znz (os : Os) (started : os.Started) (H : Type) (enc : TypeId × Value -> H) :
   ReturnsInHanded {} Tryz.checked os 13 .any (fun w args => (Rows.txnsSpec.pre enc Tryz.prog Tryz.f13 [] false w args /\ laidMetH Tryz.prog zgt w) /\ sizedMet enc Tryz.prog Tryz.f13 (OpenSpec.ofChange Rows.txnsSpec) false w args)
    (Rows.txnsSpec.post enc Tryz.prog Tryz.f13 false true false false) := by
 refine returnsInHanded_of_change_and (C := Tryz.checked) (X := fun w _ => laidMetH Tryz.prog zgt w) (fun _ _ _ hh h => h.of_heap hh) zvy started (by kernel_rfl) Tryz.func13
  (ChangeSpec.witness_at (enc := enc) (C := Tryz.checked) (os := os) (X := fun w _ => laidMetH Tryz.prog zgt w) false (zkx os) #[.slice none 0 0] 8 rfl (by kernel_rfl) (by kernel_rfl) (by kernel_rfl) (by kernel_rfl) (by kernel_rfl) (zlb os _)) ?_
 intro W base args ds gs before hval0 hW _ _ hL _
 have hW' := hW
 obtain ⟨p, q, hA0, hV, rfl, _, _⟩ := hW
 have hA : DataW.TrodAll enc Tryz.prog W 0 (fun _ => true) true Tryz.f13.params.toList args.toList ds p := hA0
 rw [Tryz.params13] at hA
 obtain ⟨v0, d0, rfl, rfl, h0⟩ := trodAll_one hA
 obtain ⟨rfl, rfl⟩ := trodVars_none hV
 have h0k := h0
 obtain ⟨fuel, hf⟩ := h0
 obtain ⟨A, n, c, rfl⟩ := okWide_slice Tryz.underlying73 ((show ∀ (j : Nat) t v, Tryz.f13.params[j]? = some t -> #[v0][j]? = some v -> Value.okWide Tryz.prog W .any base t v from hval0) 0 73 v0 (by rw [Tryz.params13]; rfl) rfl)
 clear hA0 hval0
 simp only [List.append_nil] at hW'
 have hlt : ∀ x ∈ p, x.block < W.heap.size := fun x hx => by simpa using hW'.lt x hx
 obtain ⟨os', hs, hok⟩ := zny (W := W) hf
 have harg0 : ∀ (W' : World), Below W.heap.size W W' -> DataW.Trod enc Tryz.prog W' 0 (fun b => decide (b < W.heap.size)) true 73 (.slice A n c) d0 p :=
  fun W' hn => Below.trod ztk (by kernel_rfl) (of_decide_eq_true (by kernel_rfl)) h0k hn hlt
 refine (ztj A n c os' W hs (zmx hL) hok).mono fun e W' ⟨he, hnx⟩ => ?_
 subst he
 refine ⟨_, rfl, _, _, _, [], p, [], hW', ?_, ?_, rfl, hnx.frame _, fun h => by cases h⟩
 . exact trodAll_mk1 (shut_bool Tryz.underlying4 true)
 . exact trodAll_mk1 (harg0 _ hnx)
end Go.Proofs.YtemondlgcmpbbaaGreatDoor
