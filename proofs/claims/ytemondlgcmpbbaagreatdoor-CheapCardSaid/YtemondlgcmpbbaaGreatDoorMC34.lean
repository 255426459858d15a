/- Walks: what Commit has deferred, where nothing went wrong: the nodes are clean then. -/
import Derived.Test.YtemondlgcmpbbaaGreatDoorMC33
import Derived.Test.YtemondlgcmpbbaaGreatDoorMC07
namespace Go.Proofs.YtemondlgcmpbbaaGreatDoor
open Go.RowKit

/-- A node as a record. -/
structure NdS where
  blk : Nat
  gen : Nat
  dirty : Bool
  pv : Value
  kv : Value
def NdAt (w : World) (y : Nat) (s : NdS) : Prop := NodeAt w y s.blk s.gen s.dirty s.pv s.kv
/-- Some of the nodes at D have been turned, the others not yet. -/
def Half (w : World) (D : List Nat) (k : Nat) (s t : Nat → NdS) : Prop := ∀ j (hj : j < D.length), NdAt w D[j] (if j < k then t j else s j)
theorem Half.step {w : World} {D : List Nat} {k : Nat} {s t : Nat → NdS} (h : Half w D k s t) (hnd : D.Nodup) {w' : World} (hk : k < D.length) (ho : Only (· = D[k]) w w') (ha : NdAt w' D[k] (t k)) : Half w' D (k + 1) s t := by
  intro j hj
  by_cases e : j = k
  · subst e
    rw [if_pos (Nat.lt_succ_self _)]
    exact ha
  · have hne : D[j] ≠ D[k] := fun h => e ((List.getElem_inj hnd).1 h)
    have := Blk.only (h j hj) ho hne
    have e2 : (j < k + 1) = (j < k) := by
      apply propext
      omega
    simp only [e2]
    exact this
theorem Half.all {w : World} {D : List Nat} {s t : Nat → NdS} (h : Half w D D.length s t) : ∀ j (hj : j < D.length), NdAt w D[j] (t j) := fun j hj => by have := h j hj; rwa [if_pos hj] at this
theorem Half.zero {w : World} {D : List Nat} {s t : Nat → NdS} (h : ∀ j (hj : j < D.length), NdAt w D[j] (s j)) : Half w D 0 s t := fun j hj => by rw [if_neg (by omega)]; exact h j hj

def DRel (w : World) (D : List Nat) (s t : Nat → NdS) (v : Value) (wr : World) : Prop := ∃ k : Nat, k ≤ D.length ∧ v = .int .i64 k ∧ Half wr D k s t ∧ Only (· ∈ D) w wr

set_option maxRecDepth 100000 in
set_option maxHeartbeats 1600000 in
theorem commitD (n₀ q6 qd : Nat) (v : Value) (D : List Nat) (s : Nat → NdS) (w : World) (he : Blk w q6 31 #[.nilIface]) (hv : Blk w qd 156 #[v]) (ho : w.ownsRow n₀ 86 1 v D.length (D.map P)) (hnd : D.Nodup) (hlen : D.length ≤ 1000) (hs : ∀ j (hj : j < D.length), NdAt w D[j] (s j)) (hlow : ∀ y ∈ D, y < n₀) (hq : n₀ ≤ q6 ∧ n₀ ≤ qd) :
    CallsD Tryz.prog 90 #[.pointer (some ⟨q6, 0, none⟩), .pointer (some ⟨qd, 0, none⟩)] .returning w fun e u' w' => u' = .returning ∧ (e = .returned (.tuple #[]) ∧ (∀ j (hj : j < D.length), NdAt w' D[j] { s j with dirty := false }) ∧ Only (· ∈ D) w w') := by
  obtain ⟨A, c, rfl, hform⟩ := ownN_form ho
  have c0 : w.cell? ⟨qd, 0, none⟩ = some (.slice A D.length c) := cellOf hv 0 rfl
  refine callsD_of_wpS Tryz.func90 rfl fun c₀ cs hu => ?_
  apply wpS_seq
  apply wpS_region
  simp [wpOpsS, go_sem, recoverD, hu, Tryz.ntmps90]
  refine (catch_nil _ _ _).mono ?_
  rintro e w' ⟨rfl, h⟩
  rw [h]
  clear h
  dsimp only [Exit.thenS]
  refine wpS_of_wp ?_
  have hc : D.length ≤ c ∧ c ≤ maxLen := ⟨hform.1, hform.2.1⟩
  obtain ⟨hc1, hc2⟩ := hc
  unfold maxLen at hc2
  have hrow : ∀ wr, Only (· ∈ D) w wr → ∀ k (hk : k < D.length), ∃ g, A = some ⟨g, 0, none⟩ ∧ wr.cell? ⟨g, k, none⟩ = some (.pointer (some ⟨D[k], 0, none⟩)) := by
    intro wr hr k hk
    cases hA : A with
    | none =>
      have := (hform.2.2.2 (by rw [hA]; rfl)).1
      omega
    | some a =>
      obtain ⟨e1, e2, e3, cur, e4, e5, e6⟩ := hform.2.2.1 a.block (by rw [hA]; rfl)
      rw [hA] at e3
      refine ⟨a.block, e3, ?_⟩
      have hnot : ¬ a.block ∈ D := fun hm => by have := hlow _ hm; omega
      rw [(hr.cell (p := ⟨a.block, k, none⟩) e2 hnot), e4.cell]
      have := congrArg (fun l => l[k]?) e6
      simp only [Nat.mul_one, List.getElem?_take, if_pos hk, List.getElem?_map, List.getElem?_eq_getElem hk, Option.map_some] at this
      rw [← Array.getElem?_toList]
      exact this
  have hS := hide hs
  have HROW := hide hrow
  have HE := hide he
  have hq6 : q6 ∉ D := fun hm => by have := hlow _ hm; omega
  have HQ6 := hide hq6
  have HND := hide hnd
  clear hs hrow he hform hv ho hnd
  simp only [Array.replicate_succ, Array.replicate_zero, List.push_toArray, List.append_toArray, List.nil_append, List.cons_append, List.setIfInBounds_toArray, List.set_cons_zero, List.set_cons_succ]
  go_wp2
  go_loopw [8] (fun v wr => DRel w D s (fun j => { s j with dirty := false }) v wr) (fun v _ => D.length - (intOf v).toNat)
  case atStart => exact ⟨0, Nat.zero_le _, rfl, Half.zero hS.out, Only.refl _ _⟩
  case round =>
    obtain ⟨k, hk, rfl, hh, hon⟩ := hrel
    by_cases hlt : k < D.length
    · obtain ⟨g, rfl, hcell⟩ := HROW.out wr hon k hlt
      have hnk : NdAt wr D[k] (s k) := by have := hh k hlt; rwa [if_neg (Nat.lt_irrefl _)] at this
      obtain ⟨y, hy⟩ : ∃ y, y = D[k] := ⟨_, rfl⟩
      rw [← hy] at hcell hnk
      have e0 : wr.cell? ⟨q6, 0, none⟩ = some .nilIface := (hon.cell (p := ⟨q6, 0, none⟩) HE.out.lt HQ6.out).trans (cellOf HE.out 0 rfl)
      have e1 : wr.cell? ⟨y, 2, none⟩ = some (.bool (s k).dirty) := cellOf hnk 2 rfl
      have e2 : wr.frozen? ⟨y, 2, none⟩ = false := Blk.frozen hnk 2
      have k0 : (0 : Int) ≤ (k : Int) := by omega
      have k1 : (k : Int) < (D.length : Int) := by omega
      have HH := hide hh
      have HON := hide hon
      have HNK := hide hnk
      have HY := hide hy
      clear hh hon hnk hy
      go_wp2
      go_roundw
      case rel =>
        have hO : Only (· = D[k]) wr (wr.setCell ⟨y, 2, none⟩ (.bool false)) := by rw [← HY.out]; exact Only.set1 _ _ _ _
        refine ⟨k + 1, by omega, by go_num, HH.out.step HND.out hlt hO ?_, HON.out.trans (hO.mono fun x _ hx => by rw [hx]; exact List.getElem_mem _)⟩
        rw [← HY.out]
        exact HNK.out.set_ 2 (.bool false)
      case measure => simp [intOf]; omega
    · have k1 : ¬ (k : Int) < (D.length : Int) := by omega
      obtain rfl : k = D.length := by omega
      have HH := hide hh.all
      have HON := hide hon
      clear hh hon
      go_wp2
      exact ⟨rfl, .returning, by rw [← hu], .tuple #[], by simp [results, Tryz.results90], rfl, rfl, HH.out, HON.out⟩
end Go.Proofs.YtemondlgcmpbbaaGreatDoor
