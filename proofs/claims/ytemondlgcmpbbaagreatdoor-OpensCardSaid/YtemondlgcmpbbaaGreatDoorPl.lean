/- Plain: the heads behind Format; a disk of noughts. -/
import Derived.Test.YtemondlgcmpbbaaGreatDoorOa
namespace Go.Proofs.YtemondlgcmpbbaaGreatDoor
open Go.RowKit

/-- Every head that is there says 'no tree', and its number is at most G. -/
def Hz (c : Nat → List UInt8) (G : Nat) : Prop := ∀ i, i < 2 → pOk (c i) = true → pBlk (c i) = 0 ∧ pGen (c i) ≤ G
theorem Hz.mono {c : Nat → List UInt8} {G G' : Nat} (h : Hz c G) (hg : G ≤ G') : Hz c G' := fun i hi ho => ⟨(h i hi ho).1, Nat.le_trans (h i hi ho).2 hg⟩

theorem headUp2 (c : Nat → List UInt8) : headUp c 2 = (if pOk (c 0) then [headOf 0 (c 0)] else []) ++ (if pOk (c 1) then [headOf 1 (c 1)] else []) := by
  unfold headUp headUp headUp; simp

theorem Hz.heads {c : Nat → List UInt8} {G : Nat} (h : Hz c G) : ∀ x ∈ headsN c, x.blk = 0 ∧ x.gen ≤ G := by
  intro x hx
  have := headsN_mem c x hx
  rw [headUp2] at this
  rcases List.mem_append.1 this with h1 | h1
  · split at h1
    · rename_i ho
      rw [List.mem_singleton.1 h1]
      exact h 0 (by omega) ho
    · cases h1
  · split at h1
    · rename_i ho
      rw [List.mem_singleton.1 h1]
      exact h 1 (by omega) ho
    · cases h1

/-- A head's sector with its own bytes as the parser reads them. -/
theorem headB_get (gen : Nat) (hg : gen < 4294967296) : (headB gen 0 0).length = 32 ∧ ∀ r, pGen (headB gen 0 0 ++ r) = gen ∧ pBlk (headB gen 0 0 ++ r) = 0 ∧ pRgen (headB gen 0 0 ++ r) = 0 ∧ pMagic (headB gen 0 0 ++ r) = 827479123 ∧ sealedN ((headB gen 0 0 ++ r).take 32) = true := by
  have hl : (headB gen 0 0).length = 32 := rfl
  refine ⟨hl, fun r => ?_⟩
  have ht : (headB gen 0 0 ++ r).take 32 = headB gen 0 0 := by rw [← hl, List.take_left]
  unfold pGen pBlk pRgen pMagic
  rw [ht]
  have h0 : headB gen 0 0 = le4 (crcN ((headB0 gen 0 0).drop 4)) ++ (le4 827479123 ++ (le4 gen ++ (le4 0 ++ (le4 0 ++ List.replicate 12 0)))) := rfl
  refine ⟨?_, ?_, ?_, ?_, ?_⟩
  · rw [h0]; exact get4_le4 gen hg _
  · rw [h0]; exact get4_le4 0 (by omega) _
  · rw [h0]; exact get4_le4 0 (by omega) _
  · rw [h0]; exact get4_le4 827479123 (by omega) _
  · unfold headB; exact sealN_sealed _

theorem pOk_new (gen : Nat) (h0 : 0 < gen) (h1 : gen < 1073741824) : pOk (pad 128 (headB gen 0 0)) = true ∧ pGen (pad 128 (headB gen 0 0)) = gen ∧ pBlk (pad 128 (headB gen 0 0)) = 0 := by
  obtain ⟨_, hh⟩ := headB_get gen (by omega)
  obtain ⟨a1, a2, a3, a4, a5⟩ := hh (List.replicate (128 - (headB gen 0 0).length) 0)
  unfold pad
  refine ⟨?_, a1, a2⟩
  unfold pOk
  rw [a1, a2, a3, a4, a5]
  simp [h0, h1]

theorem dread_nil (bytes : List UInt8) (i : Nat) : dread bytes [] i = (bytes.drop (i * 128)).take 128 := rfl
theorem dread_dset_same {bytes : List UInt8} {n s : Nat} {x : List UInt8} (hl : bytes.length = n * 128) (hs : s < n) (hx : x.length = 128) : dread (dset bytes (s, x)) [] s = x := by
  rw [dread_nil]
  unfold dset
  simp only
  have h1 : (bytes.take (s * 128)).length = s * 128 := by rw [List.length_take]; omega
  rw [List.append_assoc, List.drop_append_of_le_length (by omega), List.drop_of_length_le (by omega), List.nil_append, List.take_append_of_le_length (by omega), List.take_of_length_le (by omega)]
theorem dread_dset_other {bytes : List UInt8} {n s i : Nat} {x : List UInt8} (hl : bytes.length = n * 128) (hs : s < n) (_hi : i < n) (hx : x.length = 128) (hne : i ≠ s) : dread (dset bytes (s, x)) [] i = dread bytes [] i := by
  rw [dread_nil, dread_nil]
  unfold dset
  simp only
  apply List.ext_getElem?
  intro j
  simp only [List.getElem?_take, List.getElem?_drop]
  split
  · rename_i hj
    have h1 : (bytes.take (s * 128)).length = s * 128 := by rw [List.length_take]; omega
    rcases Nat.lt_or_gt_of_ne hne with h | h
    · rw [List.append_assoc, List.getElem?_append_left (by omega), List.getElem?_take, if_pos (by omega)]
    · rw [List.getElem?_append_right (by simp only [List.length_append, h1, hx]; omega), List.getElem?_drop]
      congr 1
      simp only [List.length_append, h1, hx]
      omega
  · rfl

/-- Behind Format: the newest head is the new one. -/
theorem format_heads {bytes : List UInt8} {n G : Nat} (hl : bytes.length = n * 128) (hn : 8 ≤ n) (hz : Hz (dread bytes []) G) (hG : G + 1 < 1073741824) :
    ∃ hd tl, headsN (dread (formatB bytes [] (nextHead (headsN (dread bytes [])))) []) = hd :: tl ∧ hd.blk = 0 ∧ Hz (dread (formatB bytes [] (nextHead (headsN (dread bytes [])))) []) (G + 1) := by
  obtain ⟨hs, hhs⟩ : ∃ hs, hs = headsN (dread bytes []) := ⟨_, rfl⟩
  have hmem : ∀ x ∈ hs, x.slot < 2 ∧ x.gen < 1073741824 ∧ 0 < x.gen := fun x hx => headUp_slot _ 2 x (headsN_mem _ x (hhs ▸ hx))
  have hle : ∀ x ∈ hs, x.blk = 0 ∧ x.gen ≤ G := fun x hx => hz.heads x (hhs ▸ hx)
  rw [← hhs]
  have hfl : dflush bytes [] = bytes := rfl
  unfold formatB
  rw [hfl]
  obtain ⟨s, hs0⟩ : ∃ s, s = (nextHead hs).1 := ⟨_, rfl⟩
  obtain ⟨gn, hg0⟩ : ∃ gn, gn = (nextHead hs).2 := ⟨_, rfl⟩
  have hslt : s < 2 := by
    rw [hs0]; cases hs with
    | nil => show 0 < 2; omega
    | cons h t => show 1 - h.slot < 2; omega
  have hgb : 0 < gn ∧ gn ≤ G + 1 := by
    rw [hg0]; cases hs with
    | nil => show 0 < 1 ∧ 1 ≤ G + 1; omega
    | cons h t => have := (hle h (by simp)).2; show 0 < h.gen + 1 ∧ h.gen + 1 ≤ G + 1; omega
  rw [← hs0, ← hg0]
  obtain ⟨p1, p2, p3⟩ := pOk_new gn hgb.1 (by omega)
  have hxl : (pad 128 (headB gn 0 0)).length = 128 := pad_length _ _ (by rw [(headB_get gn (by omega)).1]; omega)
  obtain ⟨c, hc⟩ : ∃ c, c = dread (dset bytes (s, pad 128 (headB gn 0 0))) [] := ⟨_, rfl⟩
  have c1 : c s = pad 128 (headB gn 0 0) := by rw [hc]; exact dread_dset_same hl (by omega) hxl
  have c2 : ∀ i, i < 2 → i ≠ s → c i = dread bytes [] i := fun i hi hne => by rw [hc]; exact dread_dset_other hl (by omega) (by omega) hxl hne
  rw [← hc]
  have hz' : Hz c (G + 1) := by
    intro i hi ho
    by_cases he : i = s
    · subst he
      rw [c1, p2, p3]; exact ⟨rfl, hgb.2⟩
    · rw [c2 i hi he] at ho ⊢
      exact ⟨(hz i hi ho).1, by have := (hz i hi ho).2; omega⟩
  have hnew : pOk (c s) = true := by rw [c1]; exact p1
  have hng : pGen (c s) = gn := by rw [c1]; exact p2
  have hex : ∃ hd tl, headsN c = hd :: tl := by
    unfold headsN
    rw [headUp2]
    have : s = 0 ∨ s = 1 := by omega
    cases e0 : pOk (c 0) <;> cases e1 : pOk (c 1)
    · rcases this with h | h
      · rw [h, e0] at hnew; cases hnew
      · rw [h, e1] at hnew; cases hnew
    · exact ⟨_, _, rfl⟩
    · exact ⟨_, _, rfl⟩
    · simp only [if_true, List.singleton_append]
      unfold newest
      by_cases hq : (headOf 0 (c 0)).gen < (headOf 1 (c 1)).gen
      · exact ⟨_, _, if_pos hq⟩
      · exact ⟨_, _, if_neg hq⟩
  obtain ⟨hd, tl, he⟩ := hex
  exact ⟨hd, tl, he, (hz'.heads hd (by rw [he]; simp)).1, hz'⟩

theorem zero_not (i n : Nat) : pOk (dread (List.replicate n 0) [] i) = false := by
  have hm : pMagic (dread (List.replicate n 0) [] i) = 0 := by
    unfold pMagic
    rw [dread_nil, List.drop_replicate, List.take_replicate, List.take_replicate, List.drop_replicate]
    generalize min 32 (min 128 (n - i * 128)) - 4 = k
    match k with
    | 0 => rfl
    | 1 => rfl
    | 2 => rfl
    | 3 => rfl
    | k + 4 => rfl
  unfold pOk
  rw [hm]
  simp
theorem Hz_zero (n G : Nat) : Hz (dread (List.replicate n 0) []) G := fun i _ ho => by rw [zero_not] at ho; cases ho
theorem heads_zero (n : Nat) : headsN (dread (List.replicate n 0) []) = [] := by
  unfold headsN
  rw [headUp2, zero_not, zero_not]
  rfl
end Go.Proofs.YtemondlgcmpbbaaGreatDoor
