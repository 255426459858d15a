/- Plain: splitting, joining and mending nodes keep a tree well formed and do not touch its pairs; put and drop do to the pairs what 'lput' and 'ldrop' do. -/
import Derived.Test.YtemondlgcmpbbaaGreatDoorMC12
namespace Go.Proofs.YtemondlgcmpbbaaGreatDoor

/-! ### where a list is parted -/
theorem hidx_spec (all : Nat) : ∀ (l : List Nat) (n : Nat), 2 * n < all → all ≤ 2 * (n + l.sum) →
    hidx all l n < l.length ∧ all ≤ 2 * (n + (l.take (hidx all l n + 1)).sum) ∧ 2 * (n + (l.take (hidx all l n)).sum) < all
  | [], n, h1, h2 => by simp at h2; omega
  | s :: r, n, h1, h2 => by
    unfold hidx
    by_cases hs : all ≤ 2 * (n + s)
    · rw [if_pos hs]; simp; omega
    · rw [if_neg hs]
      simp only [List.sum_cons] at h2
      obtain ⟨q1, q2, q3⟩ := hidx_spec all r (n + s) (by omega) (by omega)
      rw [Nat.add_comm 1]
      refine ⟨by simp only [List.length_cons]; omega, ?_, ?_⟩
      · rw [List.take_succ_cons, List.sum_cons]; omega
      · rw [List.take_succ_cons, List.sum_cons]; omega

theorem sum_le {l : List Nat} {m : Nat} (hm : ∀ x ∈ l, x ≤ m) : l.sum ≤ m * l.length := by
  induction l with
  | nil => simp
  | cons x l ih =>
    have h1 := hm x (by simp)
    have h2 := ih fun y hy => hm y (by simp [hy])
    simp only [List.sum_cons, List.length_cons, Nat.mul_add, Nat.mul_one]
    omega

theorem half_spec (l : List Nat) (m : Nat) (hm : ∀ x ∈ l, x ≤ m) (h1 : 2 * m < l.sum) :
    1 ≤ half l ∧ half l < l.length ∧ l.sum ≤ 2 * (l.take (half l)).sum ∧ 2 * (l.take (half l)).sum < l.sum + 2 * m := by
  obtain ⟨q1, q2, q3⟩ := hidx_spec l.sum l 0 (by omega) (by omega)
  simp only [Nat.zero_add] at q2 q3
  have hj : hidx l.sum l 0 + 1 < l.length := by
    rcases Nat.lt_or_ge (hidx l.sum l 0 + 1) l.length with h | h
    · exact h
    · exfalso
      have he : hidx l.sum l 0 + 1 = l.length := by omega
      have hlast : l = l.take (hidx l.sum l 0) ++ [l[hidx l.sum l 0]] := by
        have := List.take_succ_eq_append_getElem q1
        rw [he, List.take_length] at this
        exact this
      have hs : l.sum = (l.take (hidx l.sum l 0)).sum + l[hidx l.sum l 0] := by
        have := congrArg List.sum hlast
        simp only [List.sum_append, List.sum_cons, List.sum_nil, Nat.add_zero] at this
        exact this
      have := hm l[hidx l.sum l 0] (List.getElem_mem _)
      omega
  have hh : half l = hidx l.sum l 0 + 1 := by unfold half; omega
  rw [hh]
  refine ⟨by omega, hj, q2, ?_⟩
  rw [List.take_succ_eq_append_getElem q1]
  have := hm l[hidx l.sum l 0] (List.getElem_mem _)
  simp only [List.sum_append, List.sum_cons, List.sum_nil]
  omega

theorem map_take_sum {α : Type} (f : α → Nat) (l : List α) (k : Nat) : ((l.map f).take k).sum = ((l.take k).map f).sum := by rw [List.map_take]
theorem take_drop_sum {α : Type} (f : α → Nat) (l : List α) (k : Nat) : ((l.take k).map f).sum + ((l.drop k).map f).sum = (l.map f).sum := by
  rw [← List.sum_append, ← List.map_append, List.take_append_drop]

/-! ### the elements' sizes -/
theorem leaf_el {lo : Str} {hi : Option Str} {es : List (Str × Str)} (h : LeafWF lo hi es) : ∀ e ∈ es, lsz e ≤ 22 := by
  intro e he
  obtain ⟨_, _, h3, h4⟩ := h.2 e he
  unfold okKey at h3; unfold okVal at h4; unfold lsz
  omega
theorem chain_el {K : Type} {W : Str → Option Str → K → Prop} {lo : Str} {hi : Option Str} {es : List (Str × K)} (h : Chain W lo hi es) : ∀ e ∈ es, ksz e ≤ 15 := by
  induction es generalizing lo with
  | nil => simp
  | cons a X ih =>
    obtain ⟨_, h2, h3⟩ := h
    intro e he
    rcases List.mem_cons.1 he with rfl | he
    · unfold ksz; omega
    · rcases h3 with ⟨rfl, _⟩ | ⟨k, _, _, _, hc⟩
      · cases he
      · exact ih hc e he

theorem firstKey_drop {K : Type} (l : List (Str × K)) (k : Nat) (h : k < l.length) : firstKey (l.drop k) = l[k].1 := by
  rw [List.drop_eq_getElem_cons h]; rfl

/-- A leaf in two. -/
theorem leaf_split {lo : Str} {hi : Option Str} {es : List (Str × Str)} (h : LeafWF lo hi es) (k : Nat) (h1 : 1 ≤ k) (h2 : k < es.length) :
    LeafWF lo (some (firstKey (es.drop k))) (es.take k) ∧ LeafWF (firstKey (es.drop k)) hi (es.drop k) ∧ slt lo (firstKey (es.drop k)) = true ∧ inHi hi (firstKey (es.drop k)) ∧ (firstKey (es.drop k)).size ≤ 8 := by
  obtain ⟨hr, ha⟩ := h
  have hcut : es = es.take k ++ es.drop k := (List.take_append_drop _ _).symm
  have hr' := hr
  rw [hcut] at hr'
  obtain ⟨r1, r2, r3⟩ := List.pairwise_append.1 hr'
  have hfk := firstKey_drop es k h2
  have hm : es[k] ∈ es.drop k := by rw [List.drop_eq_getElem_cons h2]; exact List.mem_cons_self
  have hm' : es[k] ∈ es := List.getElem_mem _
  have hlt : ∀ x ∈ es.take k, slt x.1 (firstKey (es.drop k)) = true := fun x hx => by rw [hfk]; exact r3 x hx _ hm
  have h0 : es[0]'(by omega) ∈ es.take k := by
    rw [List.mem_take_iff_getElem]
    exact ⟨0, by omega, rfl⟩
  refine ⟨⟨r1, fun e he => ?_⟩, ⟨r2, fun e he => ?_⟩, ?_, ?_, ?_⟩
  · obtain ⟨q1, _, q3⟩ := ha e (List.mem_of_mem_take he)
    exact ⟨q1, inHi_some.2 (hlt e he), q3⟩
  · obtain ⟨_, q2, q3⟩ := ha e (List.mem_of_mem_drop he)
    refine ⟨?_, q2, q3⟩
    rw [List.drop_eq_getElem_cons h2] at he r2
    rw [hfk]
    rcases List.mem_cons.1 he with rfl | he
    · exact slt_irrefl _
    · exact slt_asymm ((List.pairwise_cons.1 r2).1 e he)
  · exact slt_of_le_of_lt (ha _ (List.mem_of_mem_take h0)).1 (hlt _ h0)
  · rw [hfk]; exact (ha _ hm').2.1
  · rw [hfk]; exact (ha _ hm').2.2.1.2

/-- A full node, well formed, in two. -/
theorem split_WF : ∀ (h : Nat) (lo : Str) (hi : Option Str) (c : Tr h), WF h lo hi c → Tr.full h c = true →
    WF h lo (some (Tr.split h c).2.1) (Tr.split h c).1 ∧ WF h (Tr.split h c).2.1 hi (Tr.split h c).2.2 ∧ slt lo (Tr.split h c).2.1 = true ∧ inHi hi (Tr.split h c).2.1 ∧ (Tr.split h c).2.1.size ≤ 8 ∧
      Tr.pairs h (Tr.split h c).1 ++ Tr.pairs h (Tr.split h c).2.2 = Tr.pairs h c
  | 0, lo, hi, c, hw, hf => by
    have hs : 116 < lsum (Nd.es c) := of_decide_eq_true hf
    obtain ⟨q1, q2, _, _⟩ := half_spec ((Nd.es c).map lsz) 22 (by intro x hx; obtain ⟨e, he, rfl⟩ := List.mem_map.1 hx; exact leaf_el hw e he) (by unfold lsum at hs; omega)
    rw [List.length_map] at q2
    obtain ⟨s1, s2, s3, s4, s5⟩ := leaf_split hw _ q1 q2
    exact ⟨s1, s2, s3, s4, s5, List.take_append_drop _ _⟩
  | h + 1, lo, hi, c, hw, hf => by
    have hs : 116 < ksum (Nd.es c) := of_decide_eq_true hf
    obtain ⟨q1, q2, _, _⟩ := half_spec ((Nd.es c).map ksz) 15 (by intro x hx; obtain ⟨e, he, rfl⟩ := List.mem_map.1 hx; exact chain_el (show Chain (WF h) lo hi (Nd.es c) from hw) e he) (by unfold ksum at hs; omega)
    rw [List.length_map] at q2
    have hcut : (Nd.es c) = (Nd.es c).take (half ((Nd.es c).map ksz)) ++ (Nd.es c).drop (half ((Nd.es c).map ksz)) := (List.take_append_drop _ _).symm
    have hw' : Chain (WF h) lo hi ((Nd.es c).take (half ((Nd.es c).map ksz)) ++ (Nd.es c).drop (half ((Nd.es c).map ksz))) := by rw [← hcut]; exact hw
    have n1 : (Nd.es c).take (half ((Nd.es c).map ksz)) ≠ [] := fun e => by
      have := congrArg List.length e
      rw [List.length_take, List.length_nil] at this
      omega
    have n2 : (Nd.es c).drop (half ((Nd.es c).map ksz)) ≠ [] := fun e => by
      have := congrArg List.length e
      rw [List.length_drop, List.length_nil] at this
      omega
    obtain ⟨s1, s2, s3, s4⟩ := chain_split hw' n1 n2
    refine ⟨s1, s4, s2, s3, ?_, ?_⟩
    · cases hd : (Nd.es c).drop (half ((Nd.es c).map ksz)) with
      | nil => exact absurd hd n2
      | cons a X =>
        rw [hd] at s4
        show (firstKey ((Nd.es c).drop (half ((Nd.es c).map ksz)))).size ≤ 8
        rw [hd]
        exact s4.2.1
    · show kpairs h _ ++ kpairs h _ = kpairs h (Nd.es c)
      rw [← kpairs_app]
      exact congrArg _ (List.take_append_drop _ _)

/-- A child that may be full, as one or two. -/
theorem fix_WF {h : Nat} {lo : Str} {hi : Option Str} {c : Tr h} (hw : WF h lo hi c) (hl : lo.size ≤ 8) : Chain (WF h) lo hi (fix h lo c) ∧ kpairs h (fix h lo c) = Tr.pairs h c := by
  unfold fix
  cases hf : Tr.full h c with
  | false => exact ⟨⟨rfl, hl, .inl ⟨rfl, hw⟩⟩, by simp [kpairs]⟩
  | true =>
    obtain ⟨s1, s2, s3, s4, s5, s6⟩ := split_WF h lo hi c hw hf
    refine ⟨⟨rfl, hl, .inr ⟨_, s3, s4, s1, rfl, s5, .inl ⟨rfl, s2⟩⟩⟩, ?_⟩
    simp [kpairs, s6]

theorem join_WF : ∀ (h : Nat) (k k2 : Str) (hi : Option Str) (c d : Tr h), WF h k (some k2) c → WF h k2 hi d → slt k k2 = true → inHi hi k2 →
    WF h k hi (Tr.join h c k2 d) ∧ Tr.pairs h (Tr.join h c k2 d) = Tr.pairs h c ++ Tr.pairs h d
  | 0, k, k2, hi, c, d, hc, hd, hk, hh => by
    obtain ⟨c1, c2⟩ := hc
    obtain ⟨d1, d2⟩ := hd
    refine ⟨⟨List.pairwise_append.2 ⟨c1, d1, fun x hx y hy => slt_of_lt_of_le ((c2 x hx).2.1 k2 rfl) (d2 y hy).1⟩, fun e he => ?_⟩, rfl⟩
    rcases List.mem_append.1 he with he | he
    · obtain ⟨q1, q2, q3⟩ := c2 e he
      exact ⟨q1, inHi_le hh (q2 k2 rfl), q3⟩
    · obtain ⟨q1, q2, q3⟩ := d2 e he
      exact ⟨slt_asymm (slt_of_lt_of_le hk q1), q2, q3⟩
  | h + 1, k, k2, hi, c, d, hc, hd, hk, hh => by
    have hr : rekey k2 (Nd.es d) = Nd.es d := rekey_same (show Chain (WF h) k2 hi (Nd.es d) from hd)
    refine ⟨?_, ?_⟩
    · show Chain (WF h) k hi (Nd.es c ++ rekey k2 (Nd.es d))
      rw [hr]
      exact chain_app hc hk hh hd
    · show kpairs h (Nd.es c ++ rekey k2 (Nd.es d)) = kpairs h (Nd.es c) ++ kpairs h (Nd.es d)
      rw [hr, kpairs_app]

theorem last_split {α : Type} (l : List α) (x : α) (h : l.getLast? = some x) : l = l.dropLast ++ [x] := by
  have hne : l ≠ [] := by rintro rfl; simp at h
  have := List.dropLast_concat_getLast hne
  rw [List.getLast?_eq_some_getLast hne] at h
  injection h with h
  rw [h] at this
  exact this.symm

/-- 'mend' keeps the children in order, and their pairs. -/
theorem mend_WF {h : Nat} {lo k : Str} {hi : Option Str} {A B : List (Str × Tr h)} {c0 c : Tr h} (hc : Chain (WF h) lo hi (A ++ (k, c0) :: B)) (hw : WF h k (hiOf hi B) c) :
    Chain (WF h) lo hi (mend h A k c B) ∧ kpairs h (mend h A k c B) = kpairs h A ++ Tr.pairs h c ++ kpairs h B := by
  obtain ⟨_, hk8, hrep, _, _⟩ := chain_at hc
  have hnew : Chain (WF h) lo hi (A ++ (k, c) :: B) := by
    have := hrep [(k, c)] ⟨rfl, hk8, .inl ⟨rfl, hw⟩⟩
    simpa using this
  unfold mend
  cases ht : Tr.thin h c with
  | false =>
    obtain ⟨f1, f2⟩ := fix_WF hw hk8
    exact ⟨hrep _ f1, by simp [kpairs_app, f2]⟩
  | true =>
    cases B with
    | cons d B =>
      obtain ⟨k2, d⟩ := d
      obtain ⟨t1, t2, t3, t4, t5, _, t7⟩ := chain_two hnew
      obtain ⟨j1, j2⟩ := join_WF h k k2 _ c d t1 t2 t3 t4
      obtain ⟨f1, f2⟩ := fix_WF j1 t5
      exact ⟨t7 _ f1, by simp [kpairs_app, kpairs_cons, f2, j2]⟩
    | nil =>
      cases hl : A.getLast? with
      | none =>
        have : A = [] := by simpa using hl
        subst this
        obtain ⟨f1, f2⟩ := fix_WF hw hk8
        have := hrep _ f1
        exact ⟨by simpa using this, by simpa [kpairs] using f2⟩
      | some b =>
        obtain ⟨kb, b⟩ := b
        have hA := last_split A _ hl
        have hnew' : Chain (WF h) lo hi (A.dropLast ++ (kb, b) :: (k, c) :: []) := by
          have := hnew
          rw [hA] at this
          simpa using this
        obtain ⟨t1, t2, t3, t4, t5, _, t7⟩ := chain_two hnew'
        obtain ⟨j1, j2⟩ := join_WF h kb k _ b c t1 t2 t3 t4
        obtain ⟨f1, f2⟩ := fix_WF j1 t5
        refine ⟨by have := t7 _ f1; simpa using this, ?_⟩
        conv => rhs; rw [hA]
        simp [kpairs_app, kpairs_cons, kpairs_nil, f2, j2]

/-- One child changed, then mended: in order still; the pairs as the change has made them. -/
theorem onKid_WF {h : Nat} {lo key : Str} {hi : Option Str} {X : List (Str × Tr h)} (hX : Chain (WF h) lo hi X) (hk : slt key lo = false) (hh : inHi hi key) (f : Tr h → Tr h) (g : List (Str × Str) → List (Str × Str))
    (hf : ∀ k hi' c, WF h k hi' c → slt key k = false → inHi hi' key → WF h k hi' (f c) ∧ Tr.pairs h (f c) = g (Tr.pairs h c))
    (hg : ∀ a b c, (∀ e ∈ a, slt e.1 key = true) → (∀ e ∈ c, slt key e.1 = true) → g (a ++ b ++ c) = a ++ g b ++ c) :
    Chain (WF h) lo hi (onKid h key X f) ∧ kpairs h (onKid h key X f) = g (kpairs h X) := by
  obtain ⟨A, ⟨k, c⟩, B, hXe, hl, h5, h6⟩ := below_at hX hk
  have hc : Chain (WF h) lo hi (A ++ (k, c) :: B) := by rw [← hXe]; exact hX
  obtain ⟨m1, m2, m3⟩ := kid_mid hc h5 h6
  obtain ⟨f1, f2⟩ := hf k _ c (chain_at hc).1 h5 (m3 hh)
  obtain ⟨q1, q2⟩ := mend_WF hc f1
  unfold onKid
  rw [hl, hXe, List.drop_left, List.take_left]
  refine ⟨q1, ?_⟩
  simp only
  rw [q2, f2, kpairs_app, kpairs_cons, ← List.append_assoc, hg _ _ _ m1 m2]

theorem lput_WF {lo key v : Str} {hi : Option Str} {es : List (Str × Str)} (h : LeafWF lo hi es) (hk : slt key lo = false) (hh : inHi hi key) (h1 : okKey key) (h2 : okVal v) : LeafWF lo hi (lput key v es) := by
  obtain ⟨hr, ha⟩ := h
  obtain ⟨a, b, c, he, _, ga, gc, gb⟩ := place_three key es hr
  have hb : b = [] ∨ ∃ u, b = [(key, u)] := gb.imp (fun h => h.1) (fun ⟨u, h⟩ => ⟨u, h.1⟩)
  rw [he, lput_three key v a c b ga gc hb]
  rw [he] at hr ha
  obtain ⟨r1, r2, r3⟩ := List.pairwise_append.1 hr
  obtain ⟨r4, _, _⟩ := List.pairwise_append.1 r1
  refine ⟨List.pairwise_append.2 ⟨r4, List.pairwise_cons.2 ⟨gc, r2⟩, fun x hx y hy => ?_⟩, fun e hm => ?_⟩
  · rcases List.mem_cons.1 hy with rfl | hy
    · exact ga x hx
    · exact r3 x (by simp [hx]) y hy
  · rcases List.mem_append.1 hm with hm | hm
    · exact ha e (by simp [hm])
    · rcases List.mem_cons.1 hm with rfl | hm
      · exact ⟨hk, hh, h1, h2⟩
      · exact ha e (by simp [hm])

theorem ldrop_WF {lo key : Str} {hi : Option Str} {es : List (Str × Str)} (h : LeafWF lo hi es) : LeafWF lo hi (ldrop key es) := by
  obtain ⟨hr, ha⟩ := h
  have hs : List.Sublist (ldrop key es) es := by
    unfold ldrop
    have : es = es.take (place key es) ++ es.drop (place key es) := (List.take_append_drop _ _).symm
    conv => rhs; rw [this]
    exact List.Sublist.append (List.Sublist.refl _) (List.drop_sublist_drop_left _ (by omega))
  exact ⟨hr.sublist hs, fun e he => ha e (hs.subset he)⟩

theorem put_WF : ∀ (h : Nat) (lo : Str) (hi : Option Str) (n : Tr h) (key v : Str), WF h lo hi n → slt key lo = false → inHi hi key → okKey key → okVal v →
    WF h lo hi (Tr.put h n key v) ∧ Tr.pairs h (Tr.put h n key v) = lput key v (Tr.pairs h n)
  | 0, _, _, _, _, _, hw, hk, hh, h1, h2 => ⟨lput_WF hw hk hh h1 h2, rfl⟩
  | h + 1, lo, hi, n, key, v, hw, hk, hh, h1, h2 =>
    onKid_WF (show Chain (WF h) lo hi (Nd.es n) from hw) hk hh _ (lput key v) (fun k hi' c hc ck ch => put_WF h k hi' c key v hc ck ch h1 h2) (fun a b c ha hc => lput_mid key v a b c ha hc)

/-- What 'ldrop' does where the key is there; where it is not nothing is said. -/
def gdrop (key : Str) (l : List (Str × Str)) : List (Str × Str) := if there key l then ldrop key l else l
theorem gdrop_mid (key : Str) (a b c : List (Str × Str)) (ha : ∀ e ∈ a, slt e.1 key = true) (hc : ∀ e ∈ c, slt key e.1 = true) : gdrop key (a ++ b ++ c) = a ++ gdrop key b ++ c := by
  unfold gdrop
  rw [there_mid key a b c ha hc]
  cases hb : there key b with
  | false => simp
  | true => simpa using ldrop_mid key a b c ha hc hb

/-- 'drop' where the key is there. -/
theorem drop_WF : ∀ (h : Nat) (lo : Str) (hi : Option Str) (n : Tr h) (key : Str), WF h lo hi n → slt key lo = false → inHi hi key → there key (Tr.pairs h n) = true →
    WF h lo hi (Tr.drop h n key) ∧ Tr.pairs h (Tr.drop h n key) = ldrop key (Tr.pairs h n)
  | 0, _, _, _, _, hw, _, _, _ => ⟨ldrop_WF hw, rfl⟩
  | h + 1, lo, hi, n, key, hw, hk, hh, ht => by
    obtain ⟨A, ⟨k, c⟩, B, hXe, hl, h5, h6⟩ := below_at (show Chain (WF h) lo hi (Nd.es n) from hw) hk
    have hc : Chain (WF h) lo hi (A ++ (k, c) :: B) := by rw [← hXe]; exact hw
    obtain ⟨m1, m2, m3⟩ := kid_mid hc h5 h6
    have hp : Tr.pairs (h + 1) n = kpairs h A ++ Tr.pairs h c ++ kpairs h B := by
      show kpairs h (Nd.es n) = _
      rw [hXe, kpairs_app, kpairs_cons, ← List.append_assoc]
    have htc : there key (Tr.pairs h c) = true := by rw [hp, there_mid key _ _ _ m1 m2] at ht; exact ht
    obtain ⟨f1, f2⟩ := drop_WF h k _ c key (chain_at hc).1 h5 (m3 hh) htc
    obtain ⟨q1, q2⟩ := mend_WF hc f1
    have hon : onKid h key (Nd.es n) (fun c => Tr.drop h c key) = mend h A k (Tr.drop h c key) B := by
      unfold onKid
      rw [hl, hXe, List.drop_left, List.take_left]
    refine ⟨?_, ?_⟩
    · show Chain (WF h) lo hi (onKid h key (Nd.es n) fun c => Tr.drop h c key)
      rw [hon]; exact q1
    · show kpairs h (onKid h key (Nd.es n) fun c => Tr.drop h c key) = _
      rw [hon, q2, f2, hp, ldrop_mid key _ _ _ m1 m2 htc]

end Go.Proofs.YtemondlgcmpbbaaGreatDoor
