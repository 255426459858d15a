/- A drawn region: a read beside a chain of two operations that make memory. -/
import Derived.Test.YtemondlgcmpbbaaGreatDoorMl
namespace Go.Proofs.YtemondlgcmpbbaaGreatDoor
open Go.RowKit
section
variable {P : Program} {w : World} {ops : Array Oper} {rest : List Oper} {op : Oper} {a : Act} {K : Act → World → Prop} {Q : Exit → Act → World → Prop} {E : Prop}

/-- A read (i) beside a chain of two that make memory (j, then k). -/
theorem wpAnyH_vee {S : World → Prop} {md : Region.Mode} {i j k fuel : Nat} {listed : Array Bool} {oi oj ok : Oper} {vi vj vk : Value} {w1 w2 : World} (di dj dk : Option Tmp) (hr : Region.ready md ops listed = [i, j]) (hri : Region.ready md ops (listed.setIfInBounds i true) = [j]) (hrij : Region.ready md ops ((listed.setIfInBounds i true).setIfInBounds j true) = [k])
    (hrj : Region.ready md ops (listed.setIfInBounds j true) = [i, k]) (hrji : Region.ready md ops ((listed.setIfInBounds j true).setIfInBounds i true) = [k]) (hrjk : Region.ready md ops ((listed.setIfInBounds j true).setIfInBounds k true) = [i])
    (hc1 : ((listed.setIfInBounds j true).setIfInBounds i true).setIfInBounds k true = ((listed.setIfInBounds i true).setIfInBounds j true).setIfInBounds k true) (hc2 : ((listed.setIfInBounds j true).setIfInBounds k true).setIfInBounds i true = ((listed.setIfInBounds i true).setIfInBounds j true).setIfInBounds k true)
    (hoi : ops[i]? = some oi) (hoj : ops[j]? = some oj) (hok : ops[k]? = some ok) (hdi : oi.dst = di) (hdj : oj.dst = dj) (hdk : ok.dst = dk)
    (hwi : oi.guard = none) (hwj : oj.guard = none) (hwk : ok.guard = none)
    (hi0 : (execOp a.eval oi).run P w = .ok (.value vi) w) (hi1 : (execOp (a.put dj vj).eval oi).run P w1 = .ok (.value vi) w1) (hi2 : (execOp ((a.put dj vj).put dk vk).eval oi).run P w2 = .ok (.value vi) w2)
    (hj0 : (execOp a.eval oj).run P w = .ok (.value vj) w1) (hj1 : (execOp (a.put di vi).eval oj).run P w = .ok (.value vj) w1)
    (hk0 : (execOp ((a.put di vi).put dj vj).eval ok).run P w1 = .ok (.value vk) w2) (hk1 : (execOp ((a.put dj vj).put di vi).eval ok).run P w1 = .ok (.value vk) w2) (hk2 : (execOp (a.put dj vj).eval ok).run P w1 = .ok (.value vk) w2)
    (hS : S w) (hS1 : S w1) (hS2 : S w2) (hp1 : ((a.put dj vj).put di vi).put dk vk = ((a.put di vi).put dj vj).put dk vk) (hp2 : ((a.put dj vj).put dk vk).put di vi = ((a.put di vi).put dj vj).put dk vk)
    (h : wpAnyH P md ops Q S fuel (((listed.setIfInBounds i true).setIfInBounds j true).setIfInBounds k true) (((a.put di vi).put dj vj).put dk vk) w2) : wpAnyH P md ops Q S (fuel + 3) listed a w := by
  subst hdi; subst hdj; subst hdk
  have wt : ∀ {o : Oper} (a : Act), o.guard = none → Region.wanted o (yielded ops a.tmps) = true := fun a h => by simp [Region.wanted, h]
  refine wpAnyH_all hr (by simp) fun q hq => ?_
  simp only [List.mem_cons, List.not_mem_nil, or_false] at hq
  rcases hq with rfl | rfl
  · unfold wpOp
    simp only [hoi, wt _ hwi, if_true]
    exact .inl (wp_value hi0 ⟨hS, wpAnyH_one hri hoj (wt _ hwj) (wp_value hj1 ⟨hS1, wpAnyH_one hrij hok (wt _ hwk) (wp_value hk0 ⟨hS2, h⟩)⟩)⟩)
  · unfold wpOp
    simp only [hoj, wt _ hwj, if_true]
    refine .inl (wp_value hj0 ⟨hS1, ?_⟩)
    refine wpAnyH_all hrj (by simp) fun q hq => ?_
    simp only [List.mem_cons, List.not_mem_nil, or_false] at hq
    rcases hq with rfl | rfl
    · unfold wpOp
      simp only [hoi, wt _ hwi, if_true]
      refine .inl (wp_value hi1 ⟨hS1, wpAnyH_one hrji hok (wt _ hwk) (wp_value hk1 ⟨hS2, ?_⟩)⟩)
      rw [hc1, hp1]; exact h
    · unfold wpOp
      simp only [hok, wt _ hwk, if_true]
      refine .inl (wp_value hk2 ⟨hS2, wpAnyH_one hrjk hoi (wt _ hwi) (wp_value hi2 ⟨hS2, ?_⟩)⟩)
      rw [hc2, hp2]; exact h

end
end Go.Proofs.YtemondlgcmpbbaaGreatDoor
