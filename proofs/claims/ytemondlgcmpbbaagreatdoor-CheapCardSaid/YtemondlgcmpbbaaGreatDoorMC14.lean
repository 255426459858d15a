/- Plain: how great a tree is: each node fits in a block, no node has too little, how many nodes there are for so many keys, how many nodes a change makes. -/
import Derived.Test.YtemondlgcmpbbaaGreatDoorMC13
namespace Go.Proofs.YtemondlgcmpbbaaGreatDoor

def Fit : (h : Nat) → Tr h → Prop
  | 0, n => lsum (Nd.es n) ≤ 116
  | h + 1, n => ksum (Nd.es n) ≤ 116 ∧ ∀ e ∈ Nd.es n, Fit h e.2
def Reg : (h : Nat) → Tr h → Prop
  | 0, n => 2 ≤ (Nd.es n).length
  | h + 1, n => 3 ≤ (Nd.es n).length ∧ ∀ e ∈ Nd.es n, Reg h e.2
/-- Like a root: a leaf that has something, a branch of two or more. -/
def Rtl : (h : Nat) → Tr h → Prop
  | 0, n => 1 ≤ (Nd.es n).length
  | h + 1, n => 2 ≤ (Nd.es n).length ∧ ∀ e ∈ Nd.es n, Reg h e.2
/-- A root: or, below branches of one child each, one like a root. -/
def Top : (h : Nat) → Tr h → Prop
  | 0, n => Rtl 0 n
  | h + 1, n => Rtl (h + 1) n ∨ ∃ e, Nd.es n = [e] ∧ Top h e.2
/-- It may be too great by a change; what is below fits. -/
def Semi : (h : Nat) → Tr h → Prop
  | 0, n => lsum (Nd.es n) ≤ 138
  | h + 1, n => ksum (Nd.es n) ≤ 138 ∧ ∀ e ∈ Nd.es n, Fit h e.2

theorem Rtl.top : ∀ (h : Nat) (n : Tr h), Rtl h n → Top h n
  | 0, _, hn => hn
  | _ + 1, _, hn => .inl hn
theorem Reg.rtl : ∀ (h : Nat) (n : Tr h), Reg h n → Rtl h n
  | 0, _, hn => by unfold Reg at hn; unfold Rtl; omega
  | _ + 1, _, hn => ⟨by have := hn.1; omega, hn.2⟩
theorem Fit.semi : ∀ (h : Nat) (n : Tr h), Fit h n → Semi h n
  | 0, _, hn => by unfold Fit at hn; unfold Semi; omega
  | _ + 1, _, hn => ⟨by have := hn.1; omega, hn.2⟩
theorem Fit.size : ∀ (h : Nat) (n : Tr h), Fit h n → Tr.size h n ≤ 116
  | 0, _, hn => hn
  | _ + 1, _, hn => hn.1
theorem Semi.size : ∀ (h : Nat) (n : Tr h), Semi h n → Tr.size h n ≤ 138
  | 0, _, hn => hn
  | _ + 1, _, hn => hn.1
theorem Semi.fit : ∀ (h : Nat) (n : Tr h), Semi h n → Tr.size h n ≤ 116 → Fit h n
  | 0, _, _, hs => hs
  | _ + 1, _, hn, hs => ⟨hs, hn.2⟩

theorem ksum_app {K : Type} (a b : List (Str × K)) : ksum (a ++ b) = ksum a + ksum b := by simp [ksum]
theorem ksum_cons {K : Type} (a : Str × K) (b : List (Str × K)) : ksum (a :: b) = ksz a + ksum b := by simp [ksum]
theorem lsum_app (a b : List (Str × Str)) : lsum (a ++ b) = lsum a + lsum b := by simp [lsum]
theorem ksum_le {K : Type} {l : List (Str × K)} (h : ∀ e ∈ l, ksz e ≤ 15) : ksum l ≤ 15 * l.length := by
  have := sum_le (l := l.map ksz) (m := 15) (by intro x hx; obtain ⟨e, he, rfl⟩ := List.mem_map.1 hx; exact h e he)
  rwa [List.length_map] at this
theorem lsum_le {l : List (Str × Str)} (h : ∀ e ∈ l, lsz e ≤ 22) : lsum l ≤ 22 * l.length := by
  have := sum_le (l := l.map lsz) (m := 22) (by intro x hx; obtain ⟨e, he, rfl⟩ := List.mem_map.1 hx; exact h e he)
  rwa [List.length_map] at this
theorem lsum_el {l : List (Str × Str)} {e : Str × Str} (h : e ∈ l) : lsz e ≤ lsum l := by
  induction l with
  | nil => cases h
  | cons a l ih =>
    simp only [lsum, List.map_cons, List.sum_cons] at *
    rcases List.mem_cons.1 h with rfl | h
    · omega
    · have := ih h; omega

/-- A node like a root that is not thin is regular. -/
theorem reg_of_size : ∀ (h : Nat) (lo : Str) (hi : Option Str) (n : Tr h), WF h lo hi n → Rtl h n → 45 ≤ Tr.size h n → Reg h n
  | 0, _, _, n, hw, _, hs => by
    have := lsum_le (leaf_el hw)
    have hs' : 45 ≤ lsum (Nd.es n) := hs
    unfold Reg
    omega
  | h + 1, lo, hi, n, hw, hr, hs => by
    have := ksum_le (chain_el (show Chain (WF h) lo hi (Nd.es n) from hw))
    have hs' : 45 ≤ ksum (Nd.es n) := hs
    exact ⟨by omega, hr.2⟩

/-- A full node, not too great, in two: both fit, both are regular. -/
theorem split_sizes : ∀ (h : Nat) (lo : Str) (hi : Option Str) (c : Tr h), WF h lo hi c → Tr.full h c = true → Tr.size h c ≤ 170 → Rtl h c → (∀ h' (e : h = h' + 1), ∀ x ∈ Nd.es (e ▸ c : Tr (h' + 1)), Fit h' x.2) →
    Fit h (Tr.split h c).1 ∧ Fit h (Tr.split h c).2.2 ∧ Reg h (Tr.split h c).1 ∧ Reg h (Tr.split h c).2.2
  | 0, lo, hi, c, hw, hf, h170, _, _ => by
    have hs : 116 < lsum (Nd.es c) := of_decide_eq_true hf
    have hz : lsum (Nd.es c) ≤ 170 := h170
    have hel := leaf_el hw
    obtain ⟨q1, q2, q3, q4⟩ := half_spec ((Nd.es c).map lsz) 22 (by intro x hx; obtain ⟨e, he, rfl⟩ := List.mem_map.1 hx; exact hel e he) (by unfold lsum at hs; omega)
    have hsum := take_drop_sum lsz (Nd.es c) (half ((Nd.es c).map lsz))
    rw [map_take_sum] at q3 q4
    have l1 := lsum_le (l := (Nd.es c).take (half ((Nd.es c).map lsz))) fun e he => hel e (List.mem_of_mem_take he)
    have l2 := lsum_le (l := (Nd.es c).drop (half ((Nd.es c).map lsz))) fun e he => hel e (List.mem_of_mem_drop he)
    unfold lsum at hs hz l1 l2
    refine ⟨?_, ?_, ?_, ?_⟩
    · show (((Nd.es c).take (half ((Nd.es c).map lsz))).map lsz).sum ≤ 116; omega
    · show (((Nd.es c).drop (half ((Nd.es c).map lsz))).map lsz).sum ≤ 116; omega
    · show 2 ≤ ((Nd.es c).take (half ((Nd.es c).map lsz))).length; omega
    · show 2 ≤ ((Nd.es c).drop (half ((Nd.es c).map lsz))).length; omega
  | h + 1, lo, hi, c, hw, hf, h170, hr, hfit => by
    have hs : 116 < ksum (Nd.es c) := of_decide_eq_true hf
    have hz : ksum (Nd.es c) ≤ 170 := h170
    have hel := chain_el (show Chain (WF h) lo hi (Nd.es c) from hw)
    obtain ⟨q1, q2, q3, q4⟩ := half_spec ((Nd.es c).map ksz) 15 (by intro x hx; obtain ⟨e, he, rfl⟩ := List.mem_map.1 hx; exact hel e he) (by unfold ksum at hs; omega)
    have hsum := take_drop_sum ksz (Nd.es c) (half ((Nd.es c).map ksz))
    rw [map_take_sum] at q3 q4
    have l1 := ksum_le (l := (Nd.es c).take (half ((Nd.es c).map ksz))) fun e he => hel e (List.mem_of_mem_take he)
    have l2 := ksum_le (l := (Nd.es c).drop (half ((Nd.es c).map ksz))) fun e he => hel e (List.mem_of_mem_drop he)
    have hf' := hfit h rfl
    unfold ksum at hs hz l1 l2
    refine ⟨⟨?_, fun e he => hf' e (List.mem_of_mem_take he)⟩, ⟨?_, fun e he => hf' e (List.mem_of_mem_drop he)⟩, ⟨?_, fun e he => hr.2 e (List.mem_of_mem_take he)⟩, ⟨?_, fun e he => hr.2 e (List.mem_of_mem_drop he)⟩⟩
    · show (((Nd.es c).take (half ((Nd.es c).map ksz))).map ksz).sum ≤ 116; omega
    · show (((Nd.es c).drop (half ((Nd.es c).map ksz))).map ksz).sum ≤ 116; omega
    · show 3 ≤ ((Nd.es c).take (half ((Nd.es c).map ksz))).length; omega
    · show 3 ≤ ((Nd.es c).drop (half ((Nd.es c).map ksz))).length; omega

/-- What is below fits. -/
def Below1 : (h : Nat) → Tr h → Prop
  | 0, _ => True
  | h + 1, n => ∀ e ∈ Nd.es n, Fit h e.2
theorem Below1.any : ∀ (h : Nat) (c : Tr h), Below1 h c → ∀ h' (e : h = h' + 1), ∀ x ∈ Nd.es (e ▸ c : Tr (h' + 1)), Fit h' x.2
  | 0, _, _, _, e => by cases e
  | h + 1, c, hb, h', e => by
    cases e
    exact hb
theorem Fit.below : ∀ (h : Nat) (c : Tr h), Fit h c → Below1 h c
  | 0, _, _ => trivial
  | _ + 1, _, hc => hc.2
theorem Semi.below : ∀ (h : Nat) (c : Tr h), Semi h c → Below1 h c
  | 0, _, _ => trivial
  | _ + 1, _, hc => hc.2
theorem Below1.fit : ∀ (h : Nat) (n : Tr h), Below1 h n → Tr.size h n ≤ 116 → Fit h n
  | 0, _, _, hs => hs
  | _ + 1, _, hn, hs => ⟨hs, hn⟩

/-- A child, as one or two: all fit; regular, if the child is, or is full. -/
theorem fix_sizes {h : Nat} {lo : Str} {hi : Option Str} {c : Tr h} (hw : WF h lo hi c) (hr : Rtl h c) (hs : Tr.size h c ≤ 170) (hb : Below1 h c) :
    (∀ e ∈ fix h lo c, Fit h e.2) ∧ (Reg h c ∨ Tr.full h c = true → ∀ e ∈ fix h lo c, Reg h e.2) ∧ 1 ≤ (fix h lo c).length ∧ (fix h lo c).length ≤ 2 ∧ ksum (fix h lo c) ≤ 7 + lo.size + 15 ∧ (Tr.full h c = false → fix h lo c = [(lo, c)]) ∧ (Tr.full h c = true → (fix h lo c).length = 2) := by
  unfold fix
  cases hf : Tr.full h c with
  | false =>
    have h116 : Tr.size h c ≤ 116 := by have := of_decide_eq_false hf; omega
    simp only [Bool.false_eq_true, if_false, List.mem_singleton, List.length_singleton, forall_eq, or_false]
    exact ⟨hb.fit h c h116, fun h => h, by omega, by omega, by simp [ksum, ksz], fun _ => trivial, (fun h => by cases h)⟩
  | true =>
    obtain ⟨f1, f2, f3, f4⟩ := split_sizes h lo hi c hw hf hs hr (hb.any h c)
    obtain ⟨_, _, _, _, s5, _⟩ := split_WF h lo hi c hw hf
    simp only [if_true, List.mem_cons, List.not_mem_nil, or_false]
    refine ⟨?_, ?_, by simp, by simp, ?_, (fun h => by cases h), fun _ => rfl⟩
    · rintro e (rfl | rfl)
      · exact f1
      · exact f2
    · rintro _ e (rfl | rfl)
      · exact f3
      · exact f4
    · simp only [ksum, ksz, List.map_cons, List.map_nil, List.sum_cons, List.sum_nil]
      omega

theorem join_size : ∀ (h : Nat) (k2 : Str) (hi : Option Str) (c d : Tr h), WF h k2 hi d → Tr.size h (Tr.join h c k2 d) = Tr.size h c + Tr.size h d
  | 0, _, _, c, d, _ => lsum_app (Nd.es c) (Nd.es d)
  | h + 1, k2, hi, c, d, hw => by
    show ksum (Nd.es c ++ rekey k2 (Nd.es d)) = ksum (Nd.es c) + ksum (Nd.es d)
    rw [rekey_same (show Chain (WF h) k2 hi (Nd.es d) from hw), ksum_app]
theorem join_below : ∀ (h : Nat) (k2 : Str) (hi : Option Str) (c d : Tr h), WF h k2 hi d → Below1 h c → Below1 h d → Below1 h (Tr.join h c k2 d)
  | 0, _, _, _, _, _, _, _ => trivial
  | h + 1, k2, hi, c, d, hw, hc, hd => by
    show ∀ e ∈ Nd.es c ++ rekey k2 (Nd.es d), Fit h e.2
    rw [rekey_same (show Chain (WF h) k2 hi (Nd.es d) from hw)]
    intro e he
    rcases List.mem_append.1 he with he | he
    · exact hc e he
    · exact hd e he
/-- Of two neighbours one is regular, the other like a root: together they are regular. -/
theorem join_reg : ∀ (h : Nat) (k2 : Str) (hi : Option Str) (c d : Tr h), WF h k2 hi d → (Rtl h c ∧ Reg h d) ∨ (Reg h c ∧ Rtl h d) → Reg h (Tr.join h c k2 d)
  | 0, _, _, c, d, _, hr => by
    show 2 ≤ (Nd.es c ++ Nd.es d).length
    rw [List.length_append]
    rcases hr with ⟨h1, h2⟩ | ⟨h1, h2⟩ <;> simp only [Rtl, Reg] at h1 h2 <;> omega
  | h + 1, k2, hi, c, d, hw, hr => by
    show 3 ≤ (Nd.es c ++ rekey k2 (Nd.es d)).length ∧ ∀ e ∈ Nd.es c ++ rekey k2 (Nd.es d), Reg h e.2
    rw [rekey_same (show Chain (WF h) k2 hi (Nd.es d) from hw), List.length_append]
    have hall : ∀ e ∈ Nd.es c ++ Nd.es d, Reg h e.2 := by
      intro e he
      rcases List.mem_append.1 he with he | he
      · rcases hr with ⟨h1, _⟩ | ⟨h1, _⟩
        · exact h1.2 e he
        · exact h1.2 e he
      · rcases hr with ⟨_, h2⟩ | ⟨_, h2⟩
        · exact h2.2 e he
        · exact h2.2 e he
    refine ⟨?_, hall⟩
    rcases hr with ⟨h1, h2⟩ | ⟨h1, h2⟩
    · have := h1.1; have := h2.1; omega
    · have := h1.1; have := h2.1; omega

/-- All children fit and are regular. -/
def AllOK (h : Nat) (es : List (Str × Tr h)) : Prop := ∀ e ∈ es, Fit h e.2 ∧ Reg h e.2
theorem AllOK.app {h : Nat} {a b : List (Str × Tr h)} (ha : AllOK h a) (hb : AllOK h b) : AllOK h (a ++ b) := fun e he => by
  rcases List.mem_append.1 he with he | he
  · exact ha e he
  · exact hb e he

/-- 'mend' among children that are all in order: all are again; there is at most one less, and at most 15 bytes are more. -/
theorem mend_sizes {h : Nat} {lo k : Str} {hi : Option Str} {A B : List (Str × Tr h)} {c0 c : Tr h} (hc : Chain (WF h) lo hi (A ++ (k, c0) :: B)) (hw : WF h k (hiOf hi B) c)
    (hA : AllOK h A) (hB : AllOK h B) (hr : Rtl h c) (hs : Semi h c) (hne : A ≠ [] ∨ B ≠ []) :
    AllOK h (mend h A k c B) ∧ A.length + B.length ≤ (mend h A k c B).length ∧ ksum (mend h A k c B) ≤ ksum (A ++ (k, c0) :: B) + 15 := by
  obtain ⟨_, hk8, hrep, _, _⟩ := chain_at hc
  have hnew : Chain (WF h) lo hi (A ++ (k, c) :: B) := by
    have := hrep [(k, c)] ⟨rfl, hk8, .inl ⟨rfl, hw⟩⟩
    simpa using this
  have hsz := hs.size
  unfold mend
  cases ht : Tr.thin h c with
  | false =>
    have h45 : 45 ≤ Tr.size h c := by have := of_decide_eq_false ht; omega
    have hreg := reg_of_size h _ _ c hw hr h45
    obtain ⟨f1, f2, f3, f4, f5, _, _⟩ := fix_sizes hw hr (by omega) (hs.below h c)
    simp only [Bool.false_eq_true, if_false]
    refine ⟨(hA.app fun e he => ⟨f1 e he, f2 (.inl hreg) e he⟩).app hB, ?_, ?_⟩
    · simp only [List.length_append]; omega
    · simp only [ksum_app, ksum_cons, ksz]; omega
  | true =>
    have h45 : Tr.size h c < 45 := of_decide_eq_true ht
    simp only [if_true]
    cases B with
    | cons d B =>
      obtain ⟨k2, d⟩ := d
      obtain ⟨t1, t2, t3, t4, t5, t6, t7⟩ := chain_two hnew
      obtain ⟨j1, _⟩ := join_WF h k k2 _ c d t1 t2 t3 t4
      obtain ⟨d1, d2⟩ := hB (k2, d) (by simp)
      have jr := join_reg h k2 _ c d t2 (.inl ⟨hr, d2⟩)
      have js := join_size h k2 _ c d t2
      have jb := join_below h k2 _ c d t2 (hs.below h c) (d1.below h d)
      have hd116 : Tr.size h d ≤ 116 := d1.size
      obtain ⟨f1, f2, f3, f4, f5, _, _⟩ := fix_sizes j1 (jr.rtl h _) (by omega) jb
      refine ⟨(hA.app fun e he => ⟨f1 e he, f2 (.inl jr) e he⟩).app fun e he => hB e (by simp [he]), ?_, ?_⟩
      · simp only [List.length_append, List.length_cons]; omega
      · simp only [ksum_app, ksum_cons, ksz]; omega
    | nil =>
      cases hl : A.getLast? with
      | none =>
        have : A = [] := by simpa using hl
        subst this
        rcases hne with h | h <;> exact absurd rfl h
      | some b =>
        obtain ⟨kb, b⟩ := b
        have hAe := last_split A _ hl
        have hnew' : Chain (WF h) lo hi (A.dropLast ++ (kb, b) :: (k, c) :: []) := by
          have := hnew
          rw [hAe] at this
          simpa using this
        obtain ⟨t1, t2, t3, t4, t5, t6, t7⟩ := chain_two hnew'
        obtain ⟨j1, _⟩ := join_WF h kb k _ b c t1 t2 t3 t4
        obtain ⟨d1, d2⟩ := hA (kb, b) (by rw [hAe]; simp)
        have jr := join_reg h k _ b c t2 (.inr ⟨d2, hr⟩)
        have js := join_size h k _ b c t2
        have jb := join_below h k _ b c t2 (d1.below h b) (hs.below h c)
        have hd116 : Tr.size h b ≤ 116 := d1.size
        obtain ⟨f1, f2, f3, f4, f5, _, _⟩ := fix_sizes j1 (jr.rtl h _) (by omega) jb
        have hAl : A.length = A.dropLast.length + 1 := by conv => lhs; rw [hAe]
                                                          simp
        have hAs : ksum A = ksum A.dropLast + (7 + kb.size) := by conv => lhs; rw [hAe]
                                                                  simp [ksum, ksz]
        refine ⟨AllOK.app (fun e he => hA e (by rw [hAe]; simp [he])) fun e he => ⟨f1 e he, f2 (.inl jr) e he⟩, ?_, ?_⟩
        · simp only [List.length_append, List.length_nil]; omega
        · simp only [ksum_app, ksum_cons, ksz]
          omega

/-- A lone child, mended: as one, or as two that are regular. -/
theorem mend_lone {h : Nat} {lo : Str} {hi : Option Str} {c : Tr h} (hw : WF h lo hi c) (hs : Semi h c) (ht : Top h c) :
    (mend h [] lo c [] = [(lo, c)] ∧ Fit h c) ∨ ((mend h [] lo c []).length = 2 ∧ AllOK h (mend h [] lo c [])) := by
  have he : mend h [] lo c [] = fix h lo c := by
    unfold mend
    cases Tr.thin h c <;> simp
  rw [he]
  cases hf : Tr.full h c with
  | false =>
    left
    refine ⟨by unfold fix; rw [hf]; rfl, hs.fit h c ?_⟩
    have := of_decide_eq_false hf
    omega
  | true =>
    right
    have hgt : 116 < Tr.size h c := of_decide_eq_true hf
    have hr : Rtl h c := by
      cases h with
      | zero => exact ht
      | succ h =>
        rcases ht with ht | ⟨e, he, _⟩
        · exact ht
        · exfalso
          have hel := ksum_le (chain_el (show Chain (WF h) lo hi (Nd.es c) from hw))
          have : Tr.size (h + 1) c = ksum (Nd.es c) := rfl
          rw [he] at hel this
          simp only [List.length_singleton] at hel
          omega
    have hsz := hs.size
    obtain ⟨f1, f2, _, _, _, _, f7⟩ := fix_sizes hw hr (by omega) (hs.below h c)
    exact ⟨f7 hf, fun e he => ⟨f1 e he, f2 (.inr hf) e he⟩⟩

/-! ### put -/
theorem lput_len (key v : Str) (es : List (Str × Str)) (hr : Rise es) : (lput key v es).length = es.length + (if there key es then 0 else 1) ∧ lsum (lput key v es) ≤ lsum es + (2 + key.size + v.size) := by
  obtain ⟨a, b, c, he, _, ga, gc, gb⟩ := place_three key es hr
  rw [he] at gb ⊢
  have hb : b = [] ∨ ∃ u, b = [(key, u)] := gb.imp (fun h => h.1) (fun ⟨u, h⟩ => ⟨u, h.1⟩)
  rw [lput_three key v a c b ga gc hb]
  rcases gb with ⟨rfl, ht⟩ | ⟨u, rfl, ht⟩
  · rw [ht]
    simp [lsum, lsz]
    omega
  · rw [ht]
    simp [lsum, lsz]
    omega
theorem ldrop_len (key : Str) (es : List (Str × Str)) (hr : Rise es) (ht : there key es = true) : (ldrop key es).length + 1 = es.length ∧ lsum (ldrop key es) ≤ lsum es := by
  obtain ⟨a, b, c, he, _, ga, gc, gb⟩ := place_three key es hr
  rw [he] at gb ht ⊢
  rcases gb with ⟨rfl, ht'⟩ | ⟨u, rfl, _⟩
  · rw [ht'] at ht; cases ht
  · rw [ldrop_three key u a c ga gc]
    simp [lsum]
    omega

/-- A child of a branch whose children are all regular: it may be changed into one like a root. -/
theorem branch_sizes {h : Nat} {lo key : Str} {hi : Option Str} {X : List (Str × Tr h)} (hX : Chain (WF h) lo hi X) (hk : slt key lo = false) (hh : inHi hi key) (f : Tr h → Tr h) (g : Tr h → Prop)
    (hg : ∀ A k c B, X = A ++ (k, c) :: B → slt key k = false → inHi (hiOf none B) key → g c)
    (hf : ∀ k hi' c, WF h k hi' c → slt key k = false → inHi hi' key → g c → Reg h c → Fit h c → WF h k hi' (f c) ∧ Rtl h (f c) ∧ Semi h (f c))
    (hall : AllOK h X) (h2 : 2 ≤ X.length) (hs : ksum X ≤ 116) :
    AllOK h (onKid h key X f) ∧ X.length ≤ (onKid h key X f).length + 1 ∧ ksum (onKid h key X f) ≤ 131 := by
  obtain ⟨A, ⟨k, c⟩, B, hXe, hl, h5, h6⟩ := below_at hX hk
  have hc : Chain (WF h) lo hi (A ++ (k, c) :: B) := by rw [← hXe]; exact hX
  obtain ⟨_, _, m3⟩ := kid_mid hc h5 h6
  obtain ⟨q1, q2⟩ := hall (k, c) (by rw [hXe]; simp)
  obtain ⟨f1, f2, f3⟩ := hf k _ c (chain_at hc).1 h5 (m3 hh) (hg A k c B hXe h5 h6) q2 q1
  have hne : A ≠ [] ∨ B ≠ [] := by
    rcases A with _ | ⟨a, A⟩
    · rcases B with _ | ⟨b, B⟩
      · rw [hXe] at h2; simp at h2
      · exact .inr (by simp)
    · exact .inl (by simp)
  obtain ⟨r1, r2, r3⟩ := mend_sizes hc f1 (fun e he => hall e (by rw [hXe]; simp [he])) (fun e he => hall e (by rw [hXe]; simp [he])) f2 f3 hne
  have hon : onKid h key X f = mend h A k (f c) B := by
    unfold onKid
    rw [hl, hXe, List.drop_left, List.take_left]
  rw [hon]
  rw [hXe] at hs
  refine ⟨r1, ?_, by omega⟩
  rw [hXe]
  simp only [List.length_append, List.length_cons]
  omega

theorem put_reg : ∀ (h : Nat) (lo : Str) (hi : Option Str) (n : Tr h) (key v : Str), WF h lo hi n → slt key lo = false → inHi hi key → okKey key → okVal v → Fit h n →
    (Reg h n ∨ Rtl h n → Top h (Tr.put h n key v) ∧ Semi h (Tr.put h n key v)) ∧ (Reg h n → Rtl h (Tr.put h n key v))
  | 0, lo, hi, n, key, v, hw, hk, hh, h1, h2, hfit => by
    obtain ⟨l1, l2⟩ := lput_len key v (Nd.es n) hw.1
    have hfit' : lsum (Nd.es n) ≤ 116 := hfit
    have h1' : key.size ≤ 8 := h1.2
    have h2' : v.size ≤ 12 := h2
    have hp : 1 ≤ (lput key v (Nd.es n)).length := by
      unfold lput; simp only [List.length_append, List.length_cons]; omega
    exact ⟨fun _ => ⟨hp, by show lsum (lput key v (Nd.es n)) ≤ 138; omega⟩, fun _ => hp⟩
  | h + 1, lo, hi, n, key, v, hw, hk, hh, h1, h2, hfit => by
    have key_ : 2 ≤ (Nd.es n).length → (∀ e ∈ Nd.es n, Reg h e.2) → AllOK h (onKid h key (Nd.es n) fun c => Tr.put h c key v) ∧ (Nd.es n).length ≤ (onKid h key (Nd.es n) fun c => Tr.put h c key v).length + 1 ∧ ksum (onKid h key (Nd.es n) fun c => Tr.put h c key v) ≤ 131 := by
      intro h2' hreg
      refine branch_sizes (show Chain (WF h) lo hi (Nd.es n) from hw) hk hh _ (fun _ => True) (fun _ _ _ _ _ _ _ => trivial) ?_ (fun e he => ⟨hfit.2 e he, hreg e he⟩) h2' hfit.1
      intro k hi' c hc ck ch _ cr cf
      obtain ⟨p1, p2⟩ := put_reg h k hi' c key v hc ck ch h1 h2 cf
      exact ⟨(put_WF h k hi' c key v hc ck ch h1 h2).1, p2 cr, (p1 (.inl cr)).2⟩
    constructor
    · intro hr
      have h2' : 2 ≤ (Nd.es n).length ∧ ∀ e ∈ Nd.es n, Reg h e.2 := by
        rcases hr with hr | hr
        · exact ⟨by have := hr.1; omega, hr.2⟩
        · exact hr
      obtain ⟨r1, r2, r3⟩ := key_ h2'.1 h2'.2
      refine ⟨?_, ⟨by show ksum (onKid h key (Nd.es n) fun c => Tr.put h c key v) ≤ 138; omega, fun e he => (r1 e he).1⟩⟩
      by_cases hlen : 2 ≤ (onKid h key (Nd.es n) fun c => Tr.put h c key v).length
      · exact .inl ⟨hlen, fun e he => (r1 e he).2⟩
      · have h1l : (onKid h key (Nd.es n) fun c => Tr.put h c key v).length = 1 := by have := h2'.1; omega
        obtain ⟨e, he⟩ := List.length_eq_one_iff.1 h1l
        exact .inr ⟨e, he, ((r1 e (by rw [he]; simp)).2.rtl h _).top h _⟩
    · intro hr
      obtain ⟨r1, r2, r3⟩ := key_ (by have := hr.1; omega) hr.2
      exact ⟨by have := hr.1; show 2 ≤ (onKid h key (Nd.es n) fun c => Tr.put h c key v).length; omega, fun e he => (r1 e he).2⟩

theorem onKid_lone {h : Nat} {key : Str} {e : Str × Tr h} (f : Tr h → Tr h) : onKid h key [e] f = mend h [] e.1 (f e.2) [] := by
  simp [onKid, below]

theorem put_top : ∀ (h : Nat) (lo : Str) (hi : Option Str) (n : Tr h) (key v : Str), WF h lo hi n → slt key lo = false → inHi hi key → okKey key → okVal v → Fit h n → Top h n →
    Top h (Tr.put h n key v) ∧ Semi h (Tr.put h n key v)
  | 0, lo, hi, n, key, v, hw, hk, hh, h1, h2, hfit, ht => (put_reg 0 lo hi n key v hw hk hh h1 h2 hfit).1 (.inr ht)
  | h + 1, lo, hi, n, key, v, hw, hk, hh, h1, h2, hfit, ht => by
    rcases ht with ht | ⟨e, he, ht⟩
    · exact (put_reg (h + 1) lo hi n key v hw hk hh h1 h2 hfit).1 (.inr ht)
    · have hw' : Chain (WF h) lo hi [e] := by rw [← he]; exact hw
      obtain ⟨e1, e2, e3⟩ := hw'
      rcases e3 with ⟨_, hwe⟩ | ⟨_, _, _, _, hcx⟩
      · have hfe : Fit h e.2 := hfit.2 e (by rw [he]; simp)
        obtain ⟨i1, i2⟩ := put_top h lo hi e.2 key v hwe hk hh h1 h2 hfe ht
        have hwp := (put_WF h lo hi e.2 key v hwe hk hh h1 h2).1
        have hon : onKid h key (Nd.es n) (fun c => Tr.put h c key v) = mend h [] lo (Tr.put h e.2 key v) [] := by rw [he, onKid_lone, e1]
        have hlo : lo.size ≤ 8 := by rw [← e1]; exact e2
        show (Rtl (h + 1) (fresh (onKid h key (Nd.es n) fun c => Tr.put h c key v) : Nd (Tr h)) ∨ ∃ e, (onKid h key (Nd.es n) fun c => Tr.put h c key v) = [e] ∧ Top h e.2) ∧ (ksum (onKid h key (Nd.es n) fun c => Tr.put h c key v) ≤ 138 ∧ ∀ e ∈ (onKid h key (Nd.es n) fun c => Tr.put h c key v), Fit h e.2)
        have hks : ksum (mend h [] lo (Tr.put h e.2 key v) []) ≤ 138 := by
          have hch := (mend_WF (A := []) (B := []) (hi := hi) (c0 := e.2) (show Chain (WF h) lo hi ([] ++ (lo, e.2) :: []) from ⟨rfl, hlo, .inl ⟨rfl, hwe⟩⟩) hwp).1
          have hb := ksum_le (chain_el hch)
          have : (mend h [] lo (Tr.put h e.2 key v) []).length ≤ 2 := by
            unfold mend fix
            cases Tr.thin h (Tr.put h e.2 key v) <;> cases Tr.full h (Tr.put h e.2 key v) <;> simp
          omega
        rw [hon]
        rcases mend_lone hwp i2 i1 with ⟨m1, m2⟩ | ⟨m1, m2⟩
        · refine ⟨.inr ⟨_, m1, i1⟩, hks, ?_⟩
          rw [m1]
          intro x hx
          rw [List.mem_singleton.1 hx]
          exact m2
        · exact ⟨.inl ⟨by show 2 ≤ (mend h [] lo (Tr.put h e.2 key v) []).length; omega, fun x hx => (m2 x hx).2⟩, hks, fun x hx => (m2 x hx).1⟩
      · exact hcx.elim

end Go.Proofs.YtemondlgcmpbbaaGreatDoor
