/- TreeD TreeE TreeF: merged. -/
import Derived.Test.YtemondlgcmpbbaaGreatDoorMP08
namespace Go.Proofs.YtemondlgcmpbbaaGreatDoor
set_option maxRecDepth 100000
def Fit : (h : Nat) -> Tr h -> Prop
 | 0, n => lsum (Nd.es n) <= 116
 | h + 1, n => ksum (Nd.es n) <= 116 /\ ∀ e ∈ Nd.es n, Fit h e.2
def Reg : (h : Nat) -> Tr h -> Prop
 | 0, n => 2 <= (Nd.es n).length
 | h + 1, n => 3 <= (Nd.es n).length /\ ∀ e ∈ Nd.es n, Reg h e.2
def Rtl : (h : Nat) -> Tr h -> Prop
 | 0, n => 1 <= (Nd.es n).length
 | h + 1, n => 2 <= (Nd.es n).length /\ ∀ e ∈ Nd.es n, Reg h e.2
def Top : (h : Nat) -> Tr h -> Prop
 | 0, n => Rtl 0 n
 | h + 1, n => Rtl (h + 1) n \/ ∃ e, Nd.es n = [e] /\ Top h e.2
def Semi : (h : Nat) -> Tr h -> Prop
 | 0, n => lsum (Nd.es n) <= 138
 | h + 1, n => ksum (Nd.es n) <= 138 /\ ∀ e ∈ Nd.es n, Fit h e.2
theorem Rtl.top : ∀ (h : Nat) (n : Tr h), Rtl h n -> Top h n
 | 0, _, hn => hn
 | _ + 1, _, hn => .inl hn
theorem Reg.rtl : ∀ (h : Nat) (n : Tr h), Reg h n -> Rtl h n
 | 0, _, hn => by unfold Reg at hn; unfold Rtl; omega
 | _ + 1, _, hn => ⟨by have := hn.1; omega, hn.2⟩
theorem Fit.size : ∀ (h : Nat) (n : Tr h), Fit h n -> Tr.size h n <= 116
 | 0, _, hn => hn
 | _ + 1, _, hn => hn.1
theorem Semi.size : ∀ (h : Nat) (n : Tr h), Semi h n -> Tr.size h n <= 138
 | 0, _, hn => hn
 | _ + 1, _, hn => hn.1
theorem Semi.fit : ∀ (h : Nat) (n : Tr h), Semi h n -> Tr.size h n <= 116 -> Fit h n
 | 0, _, _, hs => hs
 | _ + 1, _, hn, hs => ⟨hs, hn.2⟩
theorem zh7 {K : Type} (a b : List (Str × K)) : ksum (a ++ b) = ksum a + ksum b := by simp [ksum]
theorem zhf {K : Type} (a : Str × K) (b : List (Str × K)) : ksum (a :: b) = ksz a + ksum b := by simp [ksum]
theorem zxd (a b : List (Str × Str)) : lsum (a ++ b) = lsum a + lsum b := by simp [lsum]
theorem zc1 {K : Type} {l : List (Str × K)} (h : ∀ e ∈ l, ksz e <= 15) : ksum l <= 15 * l.length := by
 have := zvk (l := l.map ksz) (m := 15) (by intro x hx; obtain ⟨e, he, rfl⟩ := List.mem_map.1 hx; exact h e he)
 rwa [List.length_map] at this
theorem zgm {l : List (Str × Str)} (h : ∀ e ∈ l, lsz e <= 22) : lsum l <= 22 * l.length := by
 have := zvk (l := l.map lsz) (m := 22) (by intro x hx; obtain ⟨e, he, rfl⟩ := List.mem_map.1 hx; exact h e he)
 rwa [List.length_map] at this
theorem zj2 : ∀ (h : Nat) (lo : Str) (hi : Option Str) (n : Tr h), WF h lo hi n -> Rtl h n -> 45 <= Tr.size h n -> Reg h n
 | 0, _, _, n, hw, _, hs => by
   have := zgm (zgk hw)
   have hs' : 45 <= lsum (Nd.es n) := hs
   unfold Reg
   omega
 | h + 1, lo, hi, n, hw, hr, hs => by
   have := zc1 (zcl (show Chain (WF h) lo hi (Nd.es n) from hw))
   have hs' : 45 <= ksum (Nd.es n) := hs
   exact ⟨by omega, hr.2⟩
theorem zj3 : ∀ (h : Nat) (lo : Str) (hi : Option Str) (c : Tr h), WF h lo hi c -> Tr.full h c = true -> Tr.size h c <= 170 -> Rtl h c -> (∀ h' (e : h = h' + 1), ∀ x ∈ Nd.es (e ▸ c : Tr (h' + 1)), Fit h' x.2) ->
   Fit h (Tr.split h c).1 /\ Fit h (Tr.split h c).2.2 /\ Reg h (Tr.split h c).1 /\ Reg h (Tr.split h c).2.2
 | 0, lo, hi, c, hw, hf, h170, _, _ => by
   have hs : 116 < lsum (Nd.es c) := of_decide_eq_true hf
   have hz : lsum (Nd.es c) <= 170 := h170
   have hel := zgk hw
   obtain ⟨q1, q2, q3, q4⟩ := zes ((Nd.es c).map lsz) 22 (by intro x hx; obtain ⟨e, he, rfl⟩ := List.mem_map.1 hx; exact hel e he) (by unfold lsum at hs; omega)
   have hsum := zc0 lsz (Nd.es c) (zaz ((Nd.es c).map lsz))
   rw [ze4] at q3 q4
   have l1 := zgm (l := (Nd.es c).take (zaz ((Nd.es c).map lsz))) fun e he => hel e (List.mem_of_mem_take he)
   have l2 := zgm (l := (Nd.es c).drop (zaz ((Nd.es c).map lsz))) fun e he => hel e (List.mem_of_mem_drop he)
   unfold lsum at hs hz l1 l2
   refine ⟨?_, ?_, ?_, ?_⟩
   . show (((Nd.es c).take (zaz ((Nd.es c).map lsz))).map lsz).sum <= 116; omega
   . show (((Nd.es c).drop (zaz ((Nd.es c).map lsz))).map lsz).sum <= 116; omega
   . show 2 <= ((Nd.es c).take (zaz ((Nd.es c).map lsz))).length; omega
   . show 2 <= ((Nd.es c).drop (zaz ((Nd.es c).map lsz))).length; omega
 | h + 1, lo, hi, c, hw, hf, h170, hr, hfit => by
   have hs : 116 < ksum (Nd.es c) := of_decide_eq_true hf
   have hz : ksum (Nd.es c) <= 170 := h170
   have hel := zcl (show Chain (WF h) lo hi (Nd.es c) from hw)
   obtain ⟨q1, q2, q3, q4⟩ := zes ((Nd.es c).map ksz) 15 (by intro x hx; obtain ⟨e, he, rfl⟩ := List.mem_map.1 hx; exact hel e he) (by unfold ksum at hs; omega)
   have hsum := zc0 ksz (Nd.es c) (zaz ((Nd.es c).map ksz))
   rw [ze4] at q3 q4
   have l1 := zc1 (l := (Nd.es c).take (zaz ((Nd.es c).map ksz))) fun e he => hel e (List.mem_of_mem_take he)
   have l2 := zc1 (l := (Nd.es c).drop (zaz ((Nd.es c).map ksz))) fun e he => hel e (List.mem_of_mem_drop he)
   have hf' := hfit h rfl
   unfold ksum at hs hz l1 l2
   refine ⟨⟨?_, fun e he => hf' e (List.mem_of_mem_take he)⟩, ⟨?_, fun e he => hf' e (List.mem_of_mem_drop he)⟩, ⟨?_, fun e he => hr.2 e (List.mem_of_mem_take he)⟩, ⟨?_, fun e he => hr.2 e (List.mem_of_mem_drop he)⟩⟩
   . show (((Nd.es c).take (zaz ((Nd.es c).map ksz))).map ksz).sum <= 116; omega
   . show (((Nd.es c).drop (zaz ((Nd.es c).map ksz))).map ksz).sum <= 116; omega
   . show 3 <= ((Nd.es c).take (zaz ((Nd.es c).map ksz))).length; omega
   . show 3 <= ((Nd.es c).drop (zaz ((Nd.es c).map ksz))).length; omega
def Below1 : (h : Nat) -> Tr h -> Prop
 | 0, _ => True
 | h + 1, n => ∀ e ∈ Nd.es n, Fit h e.2
theorem Below1.any : ∀ (h : Nat) (c : Tr h), Below1 h c -> ∀ h' (e : h = h' + 1), ∀ x ∈ Nd.es (e ▸ c : Tr (h' + 1)), Fit h' x.2
 | 0, _, _, _, e => by cases e
 | h + 1, c, hb, h', e => by
   cases e
   exact hb
theorem Fit.below : ∀ (h : Nat) (c : Tr h), Fit h c -> Below1 h c
 | 0, _, _ => trivial
 | _ + 1, _, hc => hc.2
theorem Semi.below : ∀ (h : Nat) (c : Tr h), Semi h c -> Below1 h c
 | 0, _, _ => trivial
 | _ + 1, _, hc => hc.2
theorem Below1.fit : ∀ (h : Nat) (n : Tr h), Below1 h n -> Tr.size h n <= 116 -> Fit h n
 | 0, _, _, hs => hs
 | _ + 1, _, hn, hs => ⟨hs, hn⟩
theorem zhg {h : Nat} {lo : Str} {hi : Option Str} {c : Tr h} (hw : WF h lo hi c) (hr : Rtl h c) (hs : Tr.size h c <= 170) (hb : Below1 h c) :
   (∀ e ∈ fix h lo c, Fit h e.2) /\ (Reg h c \/ Tr.full h c = true -> ∀ e ∈ fix h lo c, Reg h e.2) /\ 1 <= (fix h lo c).length /\ (fix h lo c).length <= 2 /\ ksum (fix h lo c) <= 7 + lo.size + 15 /\ (Tr.full h c = false -> fix h lo c = [(lo, c)]) /\ (Tr.full h c = true -> (fix h lo c).length = 2) := by
 unfold fix
 cases hf : Tr.full h c with
 | false =>
   have h116 : Tr.size h c <= 116 := by have := of_decide_eq_false hf; omega
   simp only [Bool.false_eq_true, if_false, List.mem_singleton, List.length_singleton, forall_eq, or_false]
   exact ⟨hb.fit h c h116, fun h => h, by omega, by omega, by simp [ksum, ksz], fun _ => trivial, (fun h => by cases h)⟩
 | true =>
   obtain ⟨f1, f2, f3, f4⟩ := zj3 h lo hi c hw hf hs hr (hb.any h c)
   obtain ⟨_, _, _, _, s5, _⟩ := zks h lo hi c hw hf
   simp only [if_true, List.mem_cons, List.not_mem_nil, or_false]
   refine ⟨?_, ?_, by simp, by simp, ?_, (fun h => by cases h), fun _ => rfl⟩
   . rintro e (rfl | rfl)
     . exact f1
     . exact f2
   . rintro _ e (rfl | rfl)
     . exact f3
     . exact f4
   . simp only [ksum, ksz, List.map_cons, List.map_nil, List.sum_cons, List.sum_nil]
     omega
theorem znk : ∀ (h : Nat) (k2 : Str) (hi : Option Str) (c d : Tr h), WF h k2 hi d -> Tr.size h (Tr.join h c k2 d) = Tr.size h c + Tr.size h d
 | 0, _, _, c, d, _ => zxd (Nd.es c) (Nd.es d)
 | h + 1, k2, hi, c, d, hw => by
   show ksum (Nd.es c ++ rekey k2 (Nd.es d)) = ksum (Nd.es c) + ksum (Nd.es d)
   rw [zge (show Chain (WF h) k2 hi (Nd.es d) from hw), zh7]
theorem zlt : ∀ (h : Nat) (k2 : Str) (hi : Option Str) (c d : Tr h), WF h k2 hi d -> Below1 h c -> Below1 h d -> Below1 h (Tr.join h c k2 d)
 | 0, _, _, _, _, _, _, _ => trivial
 | h + 1, k2, hi, c, d, hw, hc, hd => by
   show ∀ e ∈ Nd.es c ++ rekey k2 (Nd.es d), Fit h e.2
   rw [zge (show Chain (WF h) k2 hi (Nd.es d) from hw)]
   intro e he
   rcases List.mem_append.1 he with he | he
   . exact hc e he
   . exact hd e he
theorem zh8 : ∀ (h : Nat) (k2 : Str) (hi : Option Str) (c d : Tr h), WF h k2 hi d -> (Rtl h c /\ Reg h d) \/ (Reg h c /\ Rtl h d) -> Reg h (Tr.join h c k2 d)
 | 0, _, _, c, d, _, hr => by
   show 2 <= (Nd.es c ++ Nd.es d).length
   rw [List.length_append]
   rcases hr with ⟨h1, h2⟩ | ⟨h1, h2⟩ <;> simp only [Rtl, Reg] at h1 h2 <;> omega
 | h + 1, k2, hi, c, d, hw, hr => by
   show 3 <= (Nd.es c ++ rekey k2 (Nd.es d)).length /\ ∀ e ∈ Nd.es c ++ rekey k2 (Nd.es d), Reg h e.2
   rw [zge (show Chain (WF h) k2 hi (Nd.es d) from hw), List.length_append]
   have hall : ∀ e ∈ Nd.es c ++ Nd.es d, Reg h e.2 := by
    intro e he
    rcases List.mem_append.1 he with he | he
    . rcases hr with ⟨h1, _⟩ | ⟨h1, _⟩
      . exact h1.2 e he
      . exact h1.2 e he
    . rcases hr with ⟨_, h2⟩ | ⟨_, h2⟩
      . exact h2.2 e he
      . exact h2.2 e he
   refine ⟨?_, hall⟩
   rcases hr with ⟨h1, h2⟩ | ⟨h1, h2⟩
   . have := h1.1; have := h2.1; omega
   . have := h1.1; have := h2.1; omega
def AllOK (h : Nat) (es : List (Str × Tr h)) : Prop := ∀ e ∈ es, Fit h e.2 /\ Reg h e.2
theorem AllOK.app {h : Nat} {a b : List (Str × Tr h)} (ha : AllOK h a) (hb : AllOK h b) : AllOK h (a ++ b) := fun e he => by
 rcases List.mem_append.1 he with he | he
 . exact ha e he
 . exact hb e he
theorem zt0 {h : Nat} {lo k : Str} {hi : Option Str} {A B        : List (Str × Tr h)} {c0 c : Tr h} (hc : Chain (WF h) lo hi (A ++ (k, c0) :: B)) (hw : WF h k (zck hi B) c)
   (hA : AllOK h A) (hB : AllOK h B) (hr : Rtl h c) (hs : Semi h c) (hne : A ≠ [] \/ B ≠ []) :
   AllOK h (zax h A k c B) /\ A.length + B.length <= (zax h A k c B).length /\ ksum (zax h A k c B) <= ksum (A ++ (k, c0) :: B) + 15 := by
 obtain ⟨_, hk8, hrep, _, _⟩ := zca hc
 have hnew : Chain (WF h) lo hi (A ++ (k, c) :: B) := by
  have := hrep [(k, c)] ⟨rfl, hk8, .inl ⟨rfl, hw⟩⟩
  simpa using this
 have hsz := hs.size
 unfold zax
 cases ht : Tr.thin h c with
 | false =>
   have h45 : 45 <= Tr.size h c := by have := of_decide_eq_false ht; omega
   have hreg := zj2 h _ _ c hw hr h45
   obtain ⟨f1, f2, f3, f4, f5, _, _⟩ := zhg hw hr (by omega) (hs.below h c)
   simp only [Bool.false_eq_true, if_false]
   refine ⟨(hA.app fun e he => ⟨f1 e he, f2 (.inl hreg) e he⟩).app hB, ?_, ?_⟩
   . simp only [List.length_append]; omega
   . simp only [zh7, zhf, ksz]; omega
 | true =>
   have h45 : Tr.size h c < 45 := of_decide_eq_true ht
   simp only [if_true]
   cases B with
   | cons d B =>
     obtain ⟨k2, d⟩ := d
     obtain ⟨t1, t2, t3, t4, t5, t6, t7⟩ := zeq hnew
     obtain ⟨j1, _⟩ := zgl h k k2 _ c d t1 t2 t3 t4
     obtain ⟨d1, d2⟩ := hB (k2, d) (by simp)
     have jr := zh8 h k2 _ c d t2 (.inl ⟨hr, d2⟩)
     have js := znk h k2 _ c d t2
     have jb := zlt h k2 _ c d t2 (hs.below h c) (d1.below h d)
     have hd116 : Tr.size h d <= 116 := d1.size
     obtain ⟨f1, f2, f3, f4, f5, _, _⟩ := zhg j1 (jr.rtl h _) (by omega) jb
     refine ⟨(hA.app fun e he => ⟨f1 e he, f2 (.inl jr) e he⟩).app fun e he => hB e (by simp [he]), ?_, ?_⟩
     . simp only [List.length_append, List.length_cons]; omega
     . simp only [zh7, zhf, ksz]; omega
   | nil =>
     cases hl : A.getLast? with
     | none =>
       have : A = [] := by simpa using hl
       subst this
       rcases hne with h | h <;> exact absurd rfl h
     | some b =>
       obtain ⟨kb, b⟩ := b
       have hAe := zcq A _ hl
       have hnew' : Chain (WF h) lo hi (A.dropLast ++ (kb, b) :: (k, c) :: []) := by
        have := hnew
        rw [hAe] at this
        simpa using this
       obtain ⟨t1, t2, t3, t4, t5, t6, t7⟩ := zeq hnew'
       obtain ⟨j1, _⟩ := zgl h kb k _ b c t1 t2 t3 t4
       obtain ⟨d1, d2⟩ := hA (kb, b) (by rw [hAe]; simp)
       have jr := zh8 h k _ b c t2 (.inr ⟨d2, hr⟩)
       have js := znk h k _ b c t2
       have jb := zlt h k _ b c t2 (d1.below h b) (hs.below h c)
       have hd116 : Tr.size h b <= 116 := d1.size
       obtain ⟨f1, f2, f3, f4, f5, _, _⟩ := zhg j1 (jr.rtl h _) (by omega) jb
       have hAl : A.length = A.dropLast.length + 1 := by conv => lhs; rw [hAe]
                                                         simp
       have hAs : ksum A = ksum A.dropLast + (7 + kb.size) := by conv => lhs; rw [hAe]
                                                                 simp [ksum, ksz]
       refine ⟨AllOK.app (fun e he => hA e (by rw [hAe]; simp [he])) fun e he => ⟨f1 e he, f2 (.inl jr) e he⟩, ?_, ?_⟩
       . simp only [List.length_append, List.length_nil]; omega
       . simp only [zh7, zhf, ksz]
         omega
theorem znl {h : Nat} {lo : Str} {hi : Option Str} {c : Tr h} (hw : WF h lo hi c) (hs : Semi h c) (ht : Top h c) :
   (zax h [] lo c [] = [(lo, c)] /\ Fit h c) \/ ((zax h [] lo c []).length = 2 /\ AllOK h (zax h [] lo c [])) := by
 have he : zax h [] lo c [] = fix h lo c := by
  unfold zax
  cases Tr.thin h c <;> simp
 rw [he]
 cases hf : Tr.full h c with
 | false =>
   left
   refine ⟨by unfold fix; rw [hf]; rfl, hs.fit h c ?_⟩
   have := of_decide_eq_false hf
   omega
 | true =>
   right
   have hgt : 116 < Tr.size h c := of_decide_eq_true hf
   have hr : Rtl h c := by
    cases h with
    | zero => exact ht
    | succ h =>
      rcases ht with ht | ⟨e, he, _⟩
      . exact ht
      . exfalso
        have hel := zc1 (zcl (show Chain (WF h) lo hi (Nd.es c) from hw))
        have : Tr.size (h + 1) c = ksum (Nd.es c) := rfl
        rw [he] at hel this
        simp only [List.length_singleton] at hel
        omega
   have hsz := hs.size
   obtain ⟨f1, f2, _, _, _, _, f7⟩ := zhg hw hr (by omega) (hs.below h c)
   exact ⟨f7 hf, fun e he => ⟨f1 e he, f2 (.inr hf) e he⟩⟩
/-! ### put -/
theorem zh9 (key v : Str) (es : List (Str × Str)) (hr : zfk es) : (zbq key v es).length = es.length + (if there key es then 0 else 1) /\ lsum (zbq key v es) <= lsum es + (2 + key.size + v.size) := by
 obtain ⟨a, b, c, he, _, ga, gc, gb⟩ := zhr key es hr
 rw [he] at gb ⊢
 have hb : b = [] \/ ∃ u, b = [(key, u)] := gb.imp (fun h => h.1) (fun ⟨u, h⟩ => ⟨u, h.1⟩)
 rw [zlp key v a c b ga gc hb]
 rcases gb with ⟨rfl, ht⟩ | ⟨u, rfl, ht⟩
 . rw [ht]
   simp [lsum, lsz]
   omega
 . rw [ht]
   simp [lsum, lsz]
   omega
theorem zdi (key : Str) (es : List (Str × Str)) (hr : zfk es) (ht : there key es = true) : (zbu key es).length + 1 = es.length /\ lsum (zbu key es) <= lsum es := by
 obtain ⟨a, b, c, he, _, ga, gc, gb⟩ := zhr key es hr
 rw [he] at gb ht ⊢
 rcases gb with ⟨rfl, ht'⟩ | ⟨u, rfl, _⟩
 . rw [ht'] at ht; cases ht
 . rw [zrk key u a c ga gc]
   simp [lsum]
   omega
theorem ziw {h : Nat} {lo key : Str} {hi : Option Str} {X : List (Str × Tr h)} (hX : Chain (WF h) lo hi X) (hk : slt key lo = false) (hh : zbd hi key) (f : Tr h -> Tr h) (g : Tr h -> Prop)
   (hg : ∀ A k c B, X = A ++ (k, c) :: B -> slt key k = false -> zbd (zck none B) key -> g c)
   (hf : ∀ k hi' c, WF h k hi' c -> slt key k = false -> zbd hi' key -> g c -> Reg h c -> Fit h c -> WF h k hi' (f c) /\ Rtl h (f c) /\ Semi h (f c))
   (hall : AllOK h X) (h2 : 2 <= X.length) (hs : ksum X <= 116) :
   AllOK h (zah h key X f) /\ X.length <= (zah h key X f).length + 1 /\ ksum (zah h key X f) <= 131 := by
 obtain ⟨A, ⟨k, c⟩, B, hXe, hl, h5, h6⟩ := zdm hX hk
 have hc : Chain (WF h) lo hi (A ++ (k, c) :: B) := by rw [<- hXe]; exact hX
 obtain ⟨_, _, m3⟩ := zd9 hc h5 h6
 obtain ⟨q1, q2⟩ := hall (k, c) (by rw [hXe]; simp)
 obtain ⟨f1, f2, f3⟩ := hf k _ c (zca hc).1 h5 (m3 hh) (hg A k c B hXe h5 h6) q2 q1
 have hne : A ≠ [] \/ B ≠ [] := by
  rcases A with _ | ⟨a, A⟩
  . rcases B with _ | ⟨b, B⟩
    . rw [hXe] at h2; simp at h2
    . exact .inr (by simp)
  . exact .inl (by simp)
 obtain ⟨r1, r2, r3⟩ := zt0 hc f1 (fun e he => hall e (by rw [hXe]; simp [he])) (fun e he => hall e (by rw [hXe]; simp [he])) f2 f3 hne
 have hon : zah h key X f = zax h A k (f c) B := by
  unfold zah
  rw [hl, hXe, List.drop_left, List.take_left]
 rw [hon]
 rw [hXe] at hs
 refine ⟨r1, ?_, by omega⟩
 rw [hXe]
 simp only [List.length_append, List.length_cons]
 omega
theorem zmz : ∀ (h : Nat) (lo : Str) (hi : Option Str) (n : Tr h) (key v : Str), WF h lo hi n -> slt key lo = false -> zbd hi key -> zb1 key -> okVal v -> Fit h n ->
   (Reg h n \/ Rtl h n -> Top h (Tr.put h n key v) /\ Semi h (Tr.put h n key v)) /\ (Reg h n -> Rtl h (Tr.put h n key v))
 | 0, lo, hi, n, key, v, hw, hk, hh, h1, h2, hfit => by
   obtain ⟨l1, l2⟩ := zh9 key v (Nd.es n) hw.1
   have hfit' : lsum (Nd.es n) <= 116 := hfit
   have h1' : key.size <= 8 := h1.2
   have h2' : v.size <= 12 := h2
   have hp : 1 <= (zbq key v (Nd.es n)).length := by
    unfold zbq; simp only [List.length_append, List.length_cons]; omega
   exact ⟨fun _ => ⟨hp, by show lsum (zbq key v (Nd.es n)) <= 138; omega⟩, fun _ => hp⟩
 | h + 1, lo, hi, n, key, v, hw, hk, hh, h1, h2, hfit => by
   have key_ : 2 <= (Nd.es n).length -> (∀ e ∈ Nd.es n, Reg h e.2) -> AllOK h (zah h key (Nd.es n) fun c => Tr.put h c key v) /\ (Nd.es n).length <= (zah h key (Nd.es n) fun c => Tr.put h c key v).length + 1 /\ ksum (zah h key (Nd.es n) fun c => Tr.put h c key v) <= 131 := by
    intro h2' hreg
    refine ziw (show Chain (WF h) lo hi (Nd.es n) from hw) hk hh _ (fun _ => True) (fun _ _ _ _ _ _ _ => trivial) ?_ (fun e he => ⟨hfit.2 e he, hreg e he⟩) h2' hfit.1
    intro k hi' c hc ck ch _ cr cf
    obtain ⟨p1, p2⟩ := zmz h k hi' c key v hc ck ch h1 h2 cf
    exact ⟨(zd2 h k hi' c key v hc ck ch h1 h2).1, p2 cr, (p1 (.inl cr)).2⟩
   constructor
   . intro hr
     have h2' : 2 <= (Nd.es n).length /\ ∀ e ∈ Nd.es n, Reg h e.2 := by
      rcases hr with hr | hr
      . exact ⟨by have := hr.1; omega, hr.2⟩
      . exact hr
     obtain ⟨r1, r2, r3⟩ := key_ h2'.1 h2'.2
     refine ⟨?_, ⟨by show ksum (zah h key (Nd.es n) fun c => Tr.put h c key v) <= 138; omega, fun e he => (r1 e he).1⟩⟩
     by_cases hlen : 2 <= (zah h key (Nd.es n) fun c => Tr.put h c key v).length
     . exact .inl ⟨hlen, fun e he => (r1 e he).2⟩
     . have h1l : (zah h key (Nd.es n) fun c => Tr.put h c key v).length = 1 := by have := h2'.1; omega
       obtain ⟨e, he⟩ := List.length_eq_one_iff.1 h1l
       exact .inr ⟨e, he, ((r1 e (by rw [he]; simp)).2.rtl h _).top h _⟩
   . intro hr
     obtain ⟨r1, r2, r3⟩ := key_ (by have := hr.1; omega) hr.2
     exact ⟨by have := hr.1; show 2 <= (zah h key (Nd.es n) fun c => Tr.put h c key v).length; omega, fun e he => (r1 e he).2⟩
theorem ze5 {h : Nat} {key : Str} {e : Str × Tr h} (f : Tr h -> Tr h) : zah h key [e] f = zax h [] e.1 (f e.2) [] := by
 simp [zah, below]
theorem zsh : ∀ (h : Nat) (lo : Str) (hi : Option Str) (n : Tr h) (key v : Str), WF h lo hi n -> slt key lo = false -> zbd hi key -> zb1 key -> okVal v -> Fit h n -> Top h n ->
   Top h (Tr.put h n key v) /\ Semi h (Tr.put h n key v)
 | 0, lo, hi, n, key, v, hw, hk, hh, h1, h2, hfit, ht => (zmz 0 lo hi n key v hw hk hh h1 h2 hfit).1 (.inr ht)
 | h + 1, lo, hi, n, key, v, hw, hk, hh, h1, h2, hfit, ht => by
   rcases ht with ht | ⟨e, he, ht⟩
   . exact (zmz (h + 1) lo hi n key v hw hk hh h1 h2 hfit).1 (.inr ht)
   . have hw' : Chain (WF h) lo hi [e] := by rw [<- he]; exact hw
     obtain ⟨e1, e2, e3⟩ := hw'
     rcases e3 with ⟨_, hwe⟩ | ⟨_, _, _, _, hcx⟩
     . have hfe : Fit h e.2 := hfit.2 e (by rw [he]; simp)
       obtain ⟨i1, i2⟩ := zsh h lo hi e.2 key v hwe hk hh h1 h2 hfe ht
       have hwp := (zd2 h lo hi e.2 key v hwe hk hh h1 h2).1
       have hon : zah h key (Nd.es n) (fun c => Tr.put h c key v) = zax h [] lo (Tr.put h e.2 key v) [] := by rw [he, ze5, e1]
       have hlo : lo.size <= 8 := by rw [<- e1]; exact e2
       show (Rtl (h + 1) (fresh (zah h key (Nd.es n) fun c => Tr.put h c key v) : Nd (Tr h)) \/ ∃ e, (zah h key (Nd.es n) fun c => Tr.put h c key v) = [e] /\ Top h e.2) /\ (ksum (zah h key (Nd.es n) fun c => Tr.put h c key v) <= 138 /\ ∀ e ∈ (zah h key (Nd.es n) fun c => Tr.put h c key v), Fit h e.2)
       have hks : ksum (zax h [] lo (Tr.put h e.2 key v) []) <= 138 := by
        have hch := (zjn (A := []) (B := []) (hi := hi) (c0 := e.2) (show Chain (WF h) lo hi ([] ++ (lo, e.2) :: []) from ⟨rfl, hlo, .inl ⟨rfl, hwe⟩⟩) hwp).1
        have hb := zc1 (zcl hch)
        have : (zax h [] lo (Tr.put h e.2 key v) []).length <= 2 := by
         unfold zax fix
         cases Tr.thin h (Tr.put h e.2 key v) <;> cases Tr.full h (Tr.put h e.2 key v) <;> simp
        omega
       rw [hon]
       rcases znl hwp i2 i1 with ⟨m1, m2⟩ | ⟨m1, m2⟩
       . refine ⟨.inr ⟨_, m1, i1⟩, hks, ?_⟩
         rw [m1]
         intro x hx
         rw [List.mem_singleton.1 hx]
         exact m2
       . exact ⟨.inl ⟨by show 2 <= (zax h [] lo (Tr.put h e.2 key v) []).length; omega, fun x hx => (m2 x hx).2⟩, hks, fun x hx => (m2 x hx).1⟩
     . exact hcx.elim
theorem zix {h : Nat} {lo k key : Str} {hi : Option Str} {A B : List (Str × Tr h)} {c : Tr h} (hc : Chain (WF h) lo hi (A ++ (k, c) :: B)) (hk : slt key k = false) (hb : zbd (zck none B) key)
   (ht : there key (kpairs h (A ++ (k, c) :: B)) = true) : there key (Tr.pairs h c) = true := by
 obtain ⟨m1, m2, _⟩ := zd9 hc hk hb
 rw [zbn, za9, <- List.append_assoc, ziu key _ _ _ m1 m2] at ht
 exact ht
theorem zkt : ∀ (h : Nat) (lo : Str) (hi : Option Str) (n : Tr h) (key : Str), WF h lo hi n -> slt key lo = false -> zbd hi key -> there key (Tr.pairs h n) = true -> Fit h n ->
   (Reg h n \/ (Rtl h n /\ 2 <= (Tr.pairs h n).length) -> Top h (Tr.drop h n key) /\ Semi h (Tr.drop h n key)) /\ (Reg h n -> Rtl h (Tr.drop h n key))
 | 0, lo, hi, n, key, hw, hk, hh, ht, hfit => by
   obtain ⟨l1, l2⟩ := zdi key (Nd.es n) hw.1 ht
   have hfit' : lsum (Nd.es n) <= 116 := hfit
   refine ⟨fun hr => ?_, fun hr => ?_⟩
   . have h2 : 2 <= (Nd.es n).length := by
       rcases hr with hr | ⟨_, hr⟩
       . exact hr
       . exact hr
     exact ⟨by show 1 <= (zbu key (Nd.es n)).length; omega, by show lsum (zbu key (Nd.es n)) <= 138; omega⟩
   . have h2 : 2 <= (Nd.es n).length := hr
     show 1 <= (zbu key (Nd.es n)).length
     omega
 | h + 1, lo, hi, n, key, hw, hk, hh, ht, hfit => by
   have key_ : 2 <= (Nd.es n).length -> (∀ e ∈ Nd.es n, Reg h e.2) -> AllOK h (zah h key (Nd.es n) fun c => Tr.drop h c key) /\ (Nd.es n).length <= (zah h key (Nd.es n) fun c => Tr.drop h c key).length + 1 /\ ksum (zah h key (Nd.es n) fun c => Tr.drop h c key) <= 131 := by
    intro h2' hreg
    refine ziw (show Chain (WF h) lo hi (Nd.es n) from hw) hk hh _ (fun c => there key (Tr.pairs h c) = true) ?_ ?_ (fun e he => ⟨hfit.2 e he, hreg e he⟩) h2' hfit.1
    . intro A k c B hX hk5 hk6
      refine zix (lo := lo) (hi := hi) (A := A) (B := B) (k := k) ?_ hk5 hk6 ?_
      . rw [<- hX]; exact hw
      . rw [<- hX]; exact ht
    . intro k hi' c hc ck ch cg cr cf
      obtain ⟨p1, p2⟩ := zkt h k hi' c key hc ck ch cg cf
      exact ⟨(zea h k hi' c key hc ck ch cg).1, p2 cr, (p1 (.inl cr)).2⟩
   constructor
   . intro hr
     have h2' : 2 <= (Nd.es n).length /\ ∀ e ∈ Nd.es n, Reg h e.2 := by
      rcases hr with hr | ⟨hr, _⟩
      . exact ⟨by have := hr.1; omega, hr.2⟩
      . exact hr
     obtain ⟨r1, r2, r3⟩ := key_ h2'.1 h2'.2
     refine ⟨?_, ⟨by show ksum (zah h key (Nd.es n) fun c => Tr.drop h c key) <= 138; omega, fun e he => (r1 e he).1⟩⟩
     by_cases hlen : 2 <= (zah h key (Nd.es n) fun c => Tr.drop h c key).length
     . exact .inl ⟨hlen, fun e he => (r1 e he).2⟩
     . have h1l : (zah h key (Nd.es n) fun c => Tr.drop h c key).length = 1 := by have := h2'.1; omega
       obtain ⟨e, he⟩ := List.length_eq_one_iff.1 h1l
       exact .inr ⟨e, he, ((r1 e (by rw [he]; simp)).2.rtl h _).top h _⟩
   . intro hr
     obtain ⟨r1, r2, r3⟩ := key_ (by have := hr.1; omega) hr.2
     exact ⟨by have := hr.1; show 2 <= (zah h key (Nd.es n) fun c => Tr.drop h c key).length; omega, fun e he => (r1 e he).2⟩
theorem zo4 : ∀ (h : Nat) (lo : Str) (hi : Option Str) (n : Tr h) (key : Str), WF h lo hi n -> slt key lo = false -> zbd hi key -> there key (Tr.pairs h n) = true -> Fit h n -> Top h n -> 2 <= (Tr.pairs h n).length ->
   Top h (Tr.drop h n key) /\ Semi h (Tr.drop h n key)
 | 0, lo, hi, n, key, hw, hk, hh, hth, hfit, ht, h2 => (zkt 0 lo hi n key hw hk hh hth hfit).1 (.inr ⟨ht, h2⟩)
 | h + 1, lo, hi, n, key, hw, hk, hh, hth, hfit, ht, h2 => by
   rcases ht with ht | ⟨e, he, ht⟩
   . exact (zkt (h + 1) lo hi n key hw hk hh hth hfit).1 (.inr ⟨ht, h2⟩)
   . have hw' : Chain (WF h) lo hi [e] := by rw [<- he]; exact hw
     have hp : Tr.pairs (h + 1) n = Tr.pairs h e.2 := by
      show kpairs h (Nd.es n) = _
      rw [he]; simp [kpairs]
     obtain ⟨e1, e2, e3⟩ := hw'
     rcases e3 with ⟨_, hwe⟩ | ⟨_, _, _, _, hcx⟩
     . have hfe : Fit h e.2 := hfit.2 e (by rw [he]; simp)
       rw [hp] at hth h2
       obtain ⟨i1, i2⟩ := zo4 h lo hi e.2 key hwe hk hh hth hfe ht h2
       have hwp := (zea h lo hi e.2 key hwe hk hh hth).1
       have hon : zah h key (Nd.es n) (fun c => Tr.drop h c key) = zax h [] lo (Tr.drop h e.2 key) [] := by rw [he, ze5, e1]
       have hlo : lo.size <= 8 := by rw [<- e1]; exact e2
       show (Rtl (h + 1) (fresh (zah h key (Nd.es n) fun c => Tr.drop h c key) : Nd (Tr h)) \/ ∃ e, (zah h key (Nd.es n) fun c => Tr.drop h c key) = [e] /\ Top h e.2) /\ (ksum (zah h key (Nd.es n) fun c => Tr.drop h c key) <= 138 /\ ∀ e ∈ (zah h key (Nd.es n) fun c => Tr.drop h c key), Fit h e.2)
       have hks : ksum (zax h [] lo (Tr.drop h e.2 key) []) <= 138 := by
        have hch := (zjn (A := []) (B := []) (hi := hi) (c0 := e.2) (show Chain (WF h) lo hi ([] ++ (lo, e.2) :: []) from ⟨rfl, hlo, .inl ⟨rfl, hwe⟩⟩) hwp).1
        have hb := zc1 (zcl hch)
        have : (zax h [] lo (Tr.drop h e.2 key) []).length <= 2 := by
         unfold zax fix
         cases Tr.thin h (Tr.drop h e.2 key) <;> cases Tr.full h (Tr.drop h e.2 key) <;> simp
        omega
       rw [hon]
       rcases znl hwp i2 i1 with ⟨m1, m2⟩ | ⟨m1, m2⟩
       . refine ⟨.inr ⟨_, m1, i1⟩, hks, ?_⟩
         rw [m1]
         intro x hx
         rw [List.mem_singleton.1 hx]
         exact m2
       . exact ⟨.inl ⟨by show 2 <= (zax h [] lo (Tr.drop h e.2 key) []).length; omega, fun x hx => (m2 x hx).2⟩, hks, fun x hx => (m2 x hx).1⟩
     . exact hcx.elim
/-! ### how many nodes there are -/
def nodes : (h : Nat) -> Tr h -> Nat
 | 0, _ => 1
 | h + 1, n => 1 + ((Nd.es n).map fun e => nodes h e.2).sum
def zae : (h : Nat) -> Tr h -> Nat
 | 0, n => if Nd.dirty n then 1 else 0
 | h + 1, n => (if Nd.dirty n then 1 else 0) + ((Nd.es n).map fun e => zae h e.2).sum
def zak (h : Nat) (es : List (Str × Tr h)) : Nat := (es.map fun e => zae h e.2).sum
theorem zf1 (h : Nat) (a b : List (Str × Tr h)) : zak h (a ++ b) = zak h a + zak h b := by simp [zak]
theorem zbi (h : Nat) (a : Str × Tr h) (b : List (Str × Tr h)) : zak h (a :: b) = zae h a.2 + zak h b := by simp [zak]
theorem zf2 (h : Nat) : zak h [] = 0 := rfl
theorem znm : ∀ (h : Nat) (n : Tr h), Reg h n -> nodes h n + 1 <= (Tr.pairs h n).length
 | 0, n, hr => by
   have hr' : 2 <= (Nd.es n).length := hr
   show 1 + 1 <= (Nd.es n).length
   omega
 | h + 1, n, hr => by
   have : ∀ l : List (Str × Tr h), (∀ e ∈ l, Reg h e.2) -> (l.map fun e => nodes h e.2).sum + l.length <= (kpairs h l).length := by
    intro l hl
    induction l with
    | nil => simp [kpairs]
    | cons a l ih =>
      have h1 := znm h a.2 (hl a (by simp))
      have h2 := ih fun e he => hl e (by simp [he])
      rw [za9]
      simp only [List.map_cons, List.sum_cons, List.length_cons, List.length_append]
      omega
   have h1 := this (Nd.es n) hr.2
   have h3 := hr.1
   show 1 + ((Nd.es n).map fun e => nodes h e.2).sum + 1 <= (kpairs h (Nd.es n)).length
   omega
theorem zlu {h : Nat} {l : List (Str × Tr h)} (hl : ∀ e ∈ l, Reg h e.2) : (l.map fun e => nodes h e.2).sum + l.length <= (kpairs h l).length := by
 induction l with
 | nil => simp [kpairs]
 | cons a l ih =>
   have h1 := znm h a.2 (hl a (by simp))
   have h2 := ih fun e he => hl e (by simp [he])
   rw [za9]
   simp only [List.map_cons, List.sum_cons, List.length_cons, List.length_append]
   omega
theorem znn : ∀ (h : Nat) (n : Tr h), Rtl h n -> nodes h n <= (Tr.pairs h n).length
 | 0, n, hr => hr
 | h + 1, n, hr => by
   have h1 := zlu hr.2
   have h3 := hr.1
   show 1 + ((Nd.es n).map fun e => nodes h e.2).sum <= (kpairs h (Nd.es n)).length
   omega
theorem zno : ∀ (h : Nat) (n : Tr h), Top h n -> nodes h n <= (Tr.pairs h n).length + h
 | 0, n, ht => znn 0 n ht
 | h + 1, n, ht => by
   rcases ht with ht | ⟨e, he, ht⟩
   . have := znn (h + 1) n ht; omega
   . have := zno h e.2 ht
     show 1 + ((Nd.es n).map fun e => nodes h e.2).sum <= (kpairs h (Nd.es n)).length + (h + 1)
     rw [he]
     simp [kpairs]
     omega
theorem ziy : ∀ (h : Nat) (n : Tr h), Reg h n -> 2 * 3 ^ h <= (Tr.pairs h n).length
 | 0, n, hr => hr
 | h + 1, n, hr => by
   have : ∀ l : List (Str × Tr h), (∀ e ∈ l, Reg h e.2) -> 2 * 3 ^ h * l.length <= (kpairs h l).length := by
    intro l hl
    induction l with
    | nil => simp
    | cons a l ih =>
      have h1 := ziy h a.2 (hl a (by simp))
      have h2 := ih fun e he => hl e (by simp [he])
      rw [za9, List.length_cons, List.length_append, Nat.mul_add, Nat.mul_one]
      omega
   have h1 := this (Nd.es n) hr.2
   have h3 : 2 * 3 ^ h * 3 <= 2 * 3 ^ h * (Nd.es n).length := Nat.mul_le_mul_left _ hr.1
   show 2 * 3 ^ (h + 1) <= (kpairs h (Nd.es n)).length
   rw [Nat.pow_succ, <- Nat.mul_assoc]
   omega
theorem ziz {h : Nat} {n : Tr (h + 1)} (hr : Rtl (h + 1) n) : 4 * 3 ^ h <= (Tr.pairs (h + 1) n).length := by
 have : ∀ l : List (Str × Tr h), (∀ e ∈ l, Reg h e.2) -> 2 * 3 ^ h * l.length <= (kpairs h l).length := by
  intro l hl
  induction l with
  | nil => simp
  | cons a l ih =>
    have h1 := ziy h a.2 (hl a (by simp))
    have h2 := ih fun e he => hl e (by simp [he])
    rw [za9, List.length_cons, List.length_append, Nat.mul_add, Nat.mul_one]
    omega
 have h1 := this (Nd.es n) hr.2
 have h3 : 2 * 3 ^ h * 2 <= 2 * 3 ^ h * (Nd.es n).length := Nat.mul_le_mul_left _ hr.1
 show 4 * 3 ^ h <= (kpairs h (Nd.es n)).length
 omega
/-! ### how many are dirty behind a change -/
theorem zgr : ∀ (h : Nat) (n : Tr h), Tr.dirty h n = true -> 1 <= zae h n
 | 0, n, hd => by
   have hd' : Nd.dirty n = true := hd
   show 1 <= (if Nd.dirty n then 1 else 0)
   rw [if_pos hd']; omega
 | h + 1, n, hd => by
   have hd' : Nd.dirty n = true := hd
   show 1 <= (if Nd.dirty n then 1 else 0) + _
   rw [if_pos hd']; omega
theorem zo5 : ∀ (h : Nat) (c : Tr h), Tr.dirty h c = true -> zae h (Tr.split h c).1 + zae h (Tr.split h c).2.2 <= zae h c + 1
 | 0, c, hd => by have := zgr 0 c hd; show 1 + 1 <= zae 0 c + 1; omega
 | h + 1, c, hd => by
   have hd' : Nd.dirty c = true := hd
   have h1 : zae (h + 1) c = 1 + zak h (Nd.es c) := by
    show (if Nd.dirty c then 1 else 0) + _ = _
    rw [if_pos hd']; rfl
   have h2 := zc0 (fun e => zae h e.2) (Nd.es c) (zaz ((Nd.es c).map ksz))
   show (1 + zak h ((Nd.es c).take (zaz ((Nd.es c).map ksz)))) + (1 + zak h ((Nd.es c).drop (zaz ((Nd.es c).map ksz)))) <= _
   unfold zak at *
   omega
theorem zlv {h : Nat} (k : Str) {c : Tr h} (hd : Tr.dirty h c = true) : zak h (fix h k c) <= zae h c + 1 := by
 unfold fix
 split
 . have := zo5 h c hd
   simp only [zbi, zf2]
   omega
 . simp only [zbi, zf2]; omega
theorem zrl {h : Nat} (k : Str) (X : List (Str × Tr h)) : zak h (rekey k X) = zak h X := by
 cases X with
 | nil => rfl
 | cons a X => simp [rekey, zak]
theorem zlw : ∀ (h : Nat) (k2 : Str) (c d : Tr h), Tr.dirty h (Tr.join h c k2 d) = true
 | 0, _, _, _ => rfl
 | _ + 1, _, _, _ => rfl
theorem zsi : ∀ (h : Nat) (k2 : Str) (c d : Tr h), Tr.dirty h c = true \/ Tr.dirty h d = true -> zae h (Tr.join h c k2 d) <= zae h c + zae h d
 | 0, k2, c, d, hd => by
   show 1 <= _
   rcases hd with hd | hd
   . have := zgr 0 c hd; omega
   . have := zgr 0 d hd; omega
 | h + 1, k2, c, d, hd => by
   show 1 + zak h (Nd.es c ++ rekey k2 (Nd.es d)) <= ((if Nd.dirty c then 1 else 0) + zak h (Nd.es c)) + ((if Nd.dirty d then 1 else 0) + zak h (Nd.es d))
   rw [zf1, zrl]
   rcases hd with hd | hd
   . have hd' : Nd.dirty c = true := hd
     rw [if_pos hd']; omega
   . have hd' : Nd.dirty d = true := hd
     rw [if_pos hd']; omega
theorem zy7 {h : Nat} (A : List (Str × Tr h)) (k : Str) {c : Tr h} (B : List (Str × Tr h)) (hd : Tr.dirty h c = true) : zak h (zax h A k c B) <= zak h A + zae h c + zak h B + 1 := by
 unfold zax
 cases Tr.thin h c with
 | false =>
   have := zlv k hd
   simp only [Bool.false_eq_true, if_false, zf1]
   omega
 | true =>
   simp only [if_true]
   cases B with
   | cons d B =>
     have h1 := zsi h d.1 c d.2 (.inl hd)
     have h2 := zlv k (zlw h d.1 c d.2)
     simp only [zf1, zbi]
     omega
   | nil =>
     cases hl : A.getLast? with
     | none =>
       have := zlv k hd
       simp only
       omega
     | some b =>
       have hA := zcq A b hl
       have h1 := zsi h k b.2 c (.inr hd)
       have h2 := zlv b.1 (zlw h k b.2 c)
       have h3 : zak h A = zak h A.dropLast + zae h b.2 := by
        conv => lhs; rw [hA]
        rw [zf1, zbi, zf2]; omega
       simp only [zf1, zf2]
       omega
theorem zo6 {h : Nat} (key : Str) (X : List (Str × Tr h)) (f : Tr h -> Tr h) (m : Nat) (hf : ∀ c, Tr.dirty h (f c) = true /\ zae h (f c) <= zae h c + m) : zak h (zah h key X f) <= zak h X + m + 1 := by
 unfold zah
 cases hd : X.drop (below key X) with
 | nil => simp only; omega
 | cons e B =>
   obtain ⟨h1, h2⟩ := hf e.2
   have h3 := zy7 (X.take (below key X)) e.1 B h1
   have h4 := zc0 (fun e => zae h e.2) X (below key X)
   rw [hd] at h4
   simp only
   simp only [zak, List.map_cons, List.sum_cons] at *
   omega
theorem zvl : ∀ (h : Nat) (n : Tr h) (key v : Str), Tr.dirty h (Tr.put h n key v) = true /\ zae h (Tr.put h n key v) <= zae h n + (2 * h + 1)
 | 0, n, key, v => ⟨rfl, by show 1 <= _; omega⟩
 | h + 1, n, key, v => by
   refine ⟨rfl, ?_⟩
   have := zo6 key (Nd.es n) (fun c => Tr.put h c key v) _ (fun c => zvl h c key v)
   show 1 + zak h (zah h key (Nd.es n) fun c => Tr.put h c key v) <= ((if Nd.dirty n then 1 else 0) + zak h (Nd.es n)) + _
   omega
theorem zsj : ∀ (h : Nat) (n : Tr h) (key : Str), Tr.dirty h (Tr.drop h n key) = true /\ zae h (Tr.drop h n key) <= zae h n + (2 * h + 1)
 | 0, n, key => ⟨rfl, by show 1 <= _; omega⟩
 | h + 1, n, key => by
   refine ⟨rfl, ?_⟩
   have := zo6 key (Nd.es n) (fun c => Tr.drop h c key) _ (fun c => zsj h c key)
   show 1 + zak h (zah h key (Nd.es n) fun c => Tr.drop h c key) <= ((if Nd.dirty n then 1 else 0) + zak h (Nd.es n)) + _
   omega
/-! ### a clean node has clean nodes below it -/
def DU : (h : Nat) -> Tr h -> Prop
 | 0, _ => True
 | h + 1, n => (Nd.dirty n = false -> zak h (Nd.es n) = 0) /\ ∀ e ∈ Nd.es n, DU h e.2
def Kids (h : Nat) (es : List (Str × Tr h)) : Prop := ∀ e ∈ es, DU h e.2
theorem zku : ∀ (h : Nat) (c : Tr h), DU h c -> DU h (Tr.split h c).1 /\ DU h (Tr.split h c).2.2
 | 0, _, _ => ⟨trivial, trivial⟩
 | _ + 1, _, hc => ⟨⟨(fun h => by cases h), fun e he => hc.2 e (List.mem_of_mem_take he)⟩, ⟨(fun h => by cases h), fun e he => hc.2 e (List.mem_of_mem_drop he)⟩⟩
theorem zsk : ∀ (h : Nat) (k2 : Str) (c d : Tr h), DU h c -> DU h d -> DU h (Tr.join h c k2 d)
 | 0, _, _, _, _, _ => trivial
 | h + 1, k2, c, d, hc, hd => by
   refine ⟨fun h => (by cases h), fun e he => ?_⟩
   rcases List.mem_append.1 (show e ∈ Nd.es c ++ rekey k2 (Nd.es d) from he) with he | he
   . exact hc.2 e he
   . cases hx : Nd.es d with
     | nil => rw [hx] at he; cases he
     | cons a X =>
       rw [hx] at he
       rcases List.mem_cons.1 he with rfl | he
       . exact hd.2 a (by rw [hx]; simp)
       . exact hd.2 e (by rw [hx]; simp [he])
theorem zlx {h : Nat} (k : Str) {c : Tr h} (hc : DU h c) : Kids h (fix h k c) := by
 unfold fix
 split
 . intro e he
   simp only [List.mem_cons, List.not_mem_nil, or_false] at he
   rcases he with rfl | rfl
   . exact (zku h c hc).1
   . exact (zku h c hc).2
 . intro e he
   rw [List.mem_singleton.1 he]
   exact hc
theorem Kids.app {h : Nat} {a b : List (Str × Tr h)} (ha : Kids h a) (hb : Kids h b) : Kids h (a ++ b) := fun e he => by
 rcases List.mem_append.1 he with he | he
 . exact ha e he
 . exact hb e he
theorem zy8 {h : Nat} {A : List (Str × Tr h)} (k : Str) {c : Tr h} {B : List (Str × Tr h)} (hA : Kids h A) (hB : Kids h B) (hc : DU h c) : Kids h (zax h A k c B) := by
 unfold zax
 cases Tr.thin h c with
 | false => exact (hA.app (zlx k hc)).app hB
 | true =>
   simp only [if_true]
   cases B with
   | cons d B => exact (hA.app (zlx k (zsk h d.1 c d.2 hc (hB d (by simp))))).app fun e he => hB e (by simp [he])
   | nil =>
     cases hl : A.getLast? with
     | none => exact zlx k hc
     | some b =>
       have hAe := zcq A b hl
       refine Kids.app (fun e he => hA e (by rw [hAe]; simp [he])) (zlx b.1 (zsk h k b.2 c (hA b (by rw [hAe]; simp)) hc))
theorem zo7 {h : Nat} {key : Str} {X : List (Str × Tr h)} {f : Tr h -> Tr h} (hX : Kids h X) (hf : ∀ c, DU h c -> DU h (f c)) : Kids h (zah h key X f) := by
 unfold zah
 cases hd : X.drop (below key X) with
 | nil => exact hX
 | cons e B =>
   have hm : ∀ x ∈ e :: B, x ∈ X := fun x hx => List.mem_of_mem_drop (i := below key X) (by rw [hd]; exact hx)
   exact zy8 e.1 (fun x hx => hX x (List.mem_of_mem_take hx)) (fun x hx => hX x (hm x (by simp [hx]))) (hf e.2 (hX e (hm e (by simp))))
theorem zvm : ∀ (h : Nat) (n : Tr h) (key v : Str), DU h n -> DU h (Tr.put h n key v)
 | 0, _, _, _, _ => trivial
 | h + 1, _, key, v, hn => ⟨(fun h => by cases h), zo7 hn.2 fun c hc => zvm h c key v hc⟩
theorem zsl : ∀ (h : Nat) (n : Tr h) (key : Str), DU h n -> DU h (Tr.drop h n key)
 | 0, _, _, _ => trivial
 | h + 1, _, key, hn => ⟨(fun h => by cases h), zo7 hn.2 fun c hc => zsl h c key hc⟩
def noKey : Str := ByteArray.empty
structure TW (t : Tree) : Prop where
 none_ : t.root = none -> t.keys = 0
 some_ : ∀ h n, t.root = some ⟨h, n⟩ -> WF h noKey none n
 keys_ : t.keys = t.pairs.length
theorem TW.leaf {t : Tree} (ht : TW t) : LeafWF noKey none t.pairs := by
 unfold Tree.pairs
 cases hr : t.root with
 | none => exact ⟨List.Pairwise.nil, fun e he => by cases he⟩
 | some x => obtain ⟨h, n⟩ := x; exact zc6 h _ _ n (ht.some_ h n hr)
theorem TW.get {t : Tree} (ht : TW t) (key : Str) : t.get key = lookup key t.pairs := by
 unfold Tree.get Tree.pairs
 cases hr : t.root with
 | none => rfl
 | some x => obtain ⟨h, n⟩ := x; exact zer h _ _ n key (ht.some_ h n hr) (zav key)
theorem TW.empty : TW ⟨none, 0⟩ := ⟨fun _ => rfl, (fun _ _ h => by cases h), rfl⟩
theorem zbr (key : Str) : zbd none key := zvj
theorem zsm {h : Nat} {n : Tr h} (hw : WF h noKey none n) : WF (za5 h n).1 noKey none (za5 h n).2 /\ Tr.pairs (za5 h n).1 (za5 h n).2 = Tr.pairs h n := by
 unfold za5
 have hf := ziv hw (by decide : noKey.size <= 8)
 unfold fix at hf
 cases hfl : Tr.full h n with
 | false => exact ⟨hw, rfl⟩
 | true =>
   rw [hfl] at hf
   exact hf
theorem zi0 (t : Tree) (key v : Str) : ∃ h n, (t.root = some ⟨h, n⟩ \/ (t.root = none /\ (⟨h, n⟩ : (h : Nat) × Tr h) = ⟨0, zbc⟩)) /\ (t.put key v).root = some (za5 h (Tr.put h n key v)) /\ t.pairs = Tr.pairs h n /\
   (t.put key v).pairs = Tr.pairs (za5 h (Tr.put h n key v)).1 (za5 h (Tr.put h n key v)).2 := by
 unfold Tree.put Tree.pairs
 cases hr : t.root with
 | none => exact ⟨0, zbc, .inr ⟨rfl, rfl⟩, rfl, rfl, rfl⟩
 | some x => obtain ⟨h, n⟩ := x; exact ⟨h, n, .inl rfl, rfl, rfl, rfl⟩
theorem zgs : WF 0 noKey none zbc := ⟨List.Pairwise.nil, fun e he => by cases he⟩
theorem zhh {t : Tree} (ht : TW t) {key v : Str} (h1 : zb1 key) (h2 : okVal v) : (t.put key v).pairs = zbq key v t.pairs /\ TW (t.put key v) := by
 obtain ⟨h, n, hr, hp, hpt, hpp⟩ := zi0 t key v
 have hw : WF h noKey none n := by
  rcases hr with hr | ⟨_, hr⟩
  . exact ht.some_ h n hr
  . cases hr; exact zgs
 obtain ⟨p1, p2⟩ := zd2 h _ _ n key v hw (zav key) (zbr key) h1 h2
 obtain ⟨g1, g2⟩ := zsm p1
 have hpairs : (t.put key v).pairs = zbq key v t.pairs := by rw [hpp, g2, p2, hpt]
 refine ⟨hpairs, ⟨(fun he => by rw [hp] at he; cases he), fun h' n' he => ?_, ?_⟩⟩
 . rw [hp] at he
   injection he with he
   rw [he] at g1
   exact g1
 . rw [hpairs]
   have hl := (zh9 key v t.pairs ht.leaf.1).1
   rw [hl, zdd, <- ht.get key, <- ht.keys_]
   unfold Tree.put
   cases (t.get key).isSome <;> simp
theorem zeb {h : Nat} {n : Tr (h + 1)} {e : Str × Tr h} (hx : Nd.es n = [e]) : shrink (h + 1) n = shrink h e.2 := by
 show (match Nd.es n with | [e] => shrink h e.2 | _ => ⟨h + 1, n⟩) = _
 rw [hx]
theorem ze6 {h : Nat} {n : Tr (h + 1)} {e d : Str × Tr h} {X : List (Str × Tr h)} (hx : Nd.es n = e :: d :: X) : shrink (h + 1) n = ⟨h + 1, n⟩ := by
 show (match Nd.es n with | [e] => shrink h e.2 | _ => ⟨h + 1, n⟩) = _
 rw [hx]
theorem zi1 : ∀ (h : Nat) (n : Tr h), WF h noKey none n -> WF (shrink h n).1 noKey none (shrink h n).2 /\ Tr.pairs (shrink h n).1 (shrink h n).2 = Tr.pairs h n
 | 0, n, hw => ⟨hw, rfl⟩
 | h + 1, n, hw => by
   have hw' : Chain (WF h) noKey none (Nd.es n) := hw
   cases hx : Nd.es n with
   | nil => rw [hx] at hw'; exact hw'.elim
   | cons e X =>
     cases X with
     | nil =>
       have hs := zeb hx
       rw [hx] at hw'
       obtain ⟨e1, _, e3⟩ := hw'
       rcases e3 with ⟨_, hwe⟩ | ⟨_, _, _, _, hcx⟩
       . obtain ⟨i1, i2⟩ := zi1 h e.2 hwe
         rw [hs]
         refine ⟨i1, ?_⟩
         rw [i2]
         show _ = kpairs h (Nd.es n)
         rw [hx]; simp [kpairs]
       . exact hcx.elim
     | cons d X =>
       have hs := ze6 hx
       rw [hs]
       exact ⟨hw, rfl⟩
theorem zi2 {t : Tree} (ht : TW t) (key : Str) : (t.delete key).pairs = zjo key t.pairs /\ TW (t.delete key) := by
 unfold Tree.delete
 cases hr : t.root with
 | none =>
   simp only
   refine ⟨?_, ht⟩
   have : t.pairs = [] := by unfold Tree.pairs; rw [hr]
   rw [this]; rfl
 | some x =>
   obtain ⟨h, n⟩ := x
   simp only
   have hw := ht.some_ h n hr
   have hpt : t.pairs = Tr.pairs h n := by unfold Tree.pairs; rw [hr]
   have hg : Tr.get h n key = lookup key (Tr.pairs h n) := zer h _ _ n key hw (zav key)
   have hth : there key (Tr.pairs h n) = (Tr.get h n key).isSome := by rw [hg, zdd]
   cases hs : (Tr.get h n key).isSome with
   | false =>
     simp only [Bool.false_eq_true, if_false]
     refine ⟨?_, ht⟩
     unfold zjo
     rw [hpt, hth, hs]
     simp
   | true =>
     rw [hs] at hth
     simp only [if_true]
     obtain ⟨d1, d2⟩ := zea h _ _ n key hw (zav key) (zbr key) hth
     obtain ⟨s1, s2⟩ := zi1 h _ d1
     have hl := (zdi key (Tr.pairs h n) (zc6 h _ _ n hw).1 hth).1
     have hk := ht.keys_
     rw [hpt] at hk
     have hgd : zjo key t.pairs = zbu key (Tr.pairs h n) := by unfold zjo; rw [hpt, hth]; simp
     rw [hgd]
     by_cases h0 : t.keys - 1 = 0
     . rw [if_pos h0]
       have hnil : zbu key (Tr.pairs h n) = [] := List.eq_nil_of_length_eq_zero (by omega)
       refine ⟨by rw [hnil]; rfl, ⟨fun _ => h0, (fun _ _ he => by cases he), ?_⟩⟩
       exact h0
     . rw [if_neg h0]
       refine ⟨by show Tr.pairs _ _ = _; rw [s2, d2], ⟨(fun he => by cases he), fun h' n' he => ?_, ?_⟩⟩
       . injection he with he
         rw [he] at s1
         exact s1
       . show t.keys - 1 = (Tr.pairs _ _).length
         rw [s2, d2]
         omega
/-! ### how great -/
structure TF (t : Tree) : Prop where
 some_ : ∀ h n, t.root = some ⟨h, n⟩ -> Top h n /\ Fit h n /\ DU h n /\ ∀ h', h = h' + 1 -> 4 * 3 ^ h' <= t.keys
theorem TF.empty : TF ⟨none, 0⟩ := ⟨fun _ _ h => by cases h⟩
theorem TF.low {t : Tree} (ht : TF t) (hk : t.keys <= 129) {h : Nat} {n : Tr h} (hr : t.root = some ⟨h, n⟩) : h <= 4 := by
 obtain ⟨_, _, _, h4⟩ := ht.some_ h n hr
 cases h with
 | zero => omega
 | succ h =>
   have := h4 h rfl
   rcases Nat.lt_or_ge h 4 with hlt | hge
   . omega
   . exfalso
     have : 3 ^ 4 <= 3 ^ h := Nat.pow_le_pow_right (by omega) hge
     omega
def zd3 (t : Tree) : Nat := match t.root with | none => 0 | some ⟨h, n⟩ => nodes h n
def zar (t : Tree) : Nat := match t.root with | none => 0 | some ⟨h, n⟩ => zae h n
theorem TF.nodes_le {t : Tree} (hw : TW t) (ht : TF t) (hk : t.keys <= 129) : zd3 t <= t.keys + 4 := by
 unfold zd3
 have hkeys := hw.keys_
 unfold Tree.pairs at hkeys
 cases hr : t.root with
 | none => simp
 | some x =>
   obtain ⟨h, n⟩ := x
   rw [hr] at hkeys
   have := zno h n (ht.some_ h n hr).1
   have := ht.low hk hr
   simp only at hkeys ⊢
   omega
theorem z0q {h : Nat} {n : Tr h} (hw : WF h noKey none n) (ht : Top h n) (hs : Semi h n) (hd : DU h n) (hdy : Tr.dirty h n = true) :
   Top (za5 h n).1 (za5 h n).2 /\ Fit (za5 h n).1 (za5 h n).2 /\ DU (za5 h n).1 (za5 h n).2 /\ ((za5 h n).1 = h /\ zae (za5 h n).1 (za5 h n).2 <= zae h n \/ (za5 h n).1 = h + 1 /\ 4 * 3 ^ h <= (Tr.pairs h n).length /\ zae (za5 h n).1 (za5 h n).2 <= zae h n + 2) := by
 have hwf := (zsm hw)
 unfold za5 at hwf ⊢
 cases hfl : Tr.full h n with
 | false =>
   have h116 : Tr.size h n <= 116 := by have := of_decide_eq_false hfl; omega
   exact ⟨ht, hs.fit h n h116, hd, .inl ⟨rfl, Nat.le_refl _⟩⟩
 | true =>
   rw [hfl] at hwf
   have hgt : 116 < Tr.size h n := of_decide_eq_true hfl
   have hr : Rtl h n := by
    cases h with
    | zero => exact ht
    | succ h =>
      rcases ht with ht | ⟨e, he, _⟩
      . exact ht
      . exfalso
        have hel := zc1 (zcl (show Chain (WF h) noKey none (Nd.es n) from hw))
        have : Tr.size (h + 1) n = ksum (Nd.es n) := rfl
        rw [he] at hel this
        simp only [List.length_singleton] at hel
        omega
   have hsz := hs.size
   obtain ⟨f1, f2, f3, f4⟩ := zj3 h _ _ n hw hfl (by omega) hr ((hs.below h n).any h n)
   obtain ⟨_, _, _, _, s5, _⟩ := zks h _ _ n hw hfl
   obtain ⟨d1, d2⟩ := zku h n hd
   have hrt : Rtl (h + 1) (fresh [(ByteArray.empty, (Tr.split h n).1), ((Tr.split h n).2.1, (Tr.split h n).2.2)] : Nd (Tr h)) := by
    refine ⟨by show 2 <= 2; omega, fun e he => ?_⟩
    rcases List.mem_cons.1 he with rfl | he
    . exact f3
    . rw [List.mem_singleton.1 he]; exact f4
   refine ⟨.inl hrt, ⟨?_, fun e he => ?_⟩, ⟨(fun h => by cases h), fun e he => ?_⟩, .inr ⟨rfl, ?_, ?_⟩⟩
   . show ksum [(ByteArray.empty, (Tr.split h n).1), ((Tr.split h n).2.1, (Tr.split h n).2.2)] <= 116
     simp only [ksum, ksz, List.map_cons, List.map_nil, List.sum_cons, List.sum_nil]
     have : ByteArray.empty.size = 0 := rfl
     omega
   . rcases List.mem_cons.1 he with rfl | he
     . exact f1
     . rw [List.mem_singleton.1 he]; exact f2
   . rcases List.mem_cons.1 he with rfl | he
     . exact d1
     . rw [List.mem_singleton.1 he]; exact d2
   . have := ziz hrt
     have hp2 := hwf.2
     rw [if_pos rfl] at hp2
     rw [<- hp2]
     exact this
   . have := zo5 h n hdy
     show 1 + zak h [(ByteArray.empty, (Tr.split h n).1), ((Tr.split h n).2.1, (Tr.split h n).2.2)] <= _
     simp only [zbi, zf2]
     omega
theorem z0r {t : Tree} (hw : TW t) (ht : TF t) {key v : Str} (h1 : zb1 key) (h2 : okVal v) (hk : (t.put key v).keys <= 129) : TF (t.put key v) /\ zar (t.put key v) <= zar t + 9 := by
 obtain ⟨hpairs, hw'⟩ := zhh hw h1 h2
 by_cases hn : t.root = none
 . -- the first key
   have hr : (t.put key v).root = some (za5 0 (Tr.put 0 zbc key v)) := by unfold Tree.put; rw [hn]
   have p1 : Tr.put 0 zbc key v = (fresh [(key, v)] : Nd Str) := by
    show (fresh (zbq key v []) : Nd Str) = _
    simp [zbq, place, there]
   have hsz : Tr.size 0 (fresh [(key, v)] : Nd Str) <= 116 := by
    have : key.size <= 8 := h1.2
    have : v.size <= 12 := h2
    show lsum [(key, v)] <= 116
    simp [lsum, lsz]; omega
   have hg : za5 0 (Tr.put 0 zbc key v) = ⟨0, (fresh [(key, v)] : Nd Str)⟩ := by
    rw [p1]
    unfold za5
    rw [show Tr.full 0 (fresh [(key, v)] : Nd Str) = false from decide_eq_false (by omega)]
    rfl
   rw [hg] at hr
   refine ⟨⟨fun h n he => ?_⟩, ?_⟩
   . rw [hr] at he
     cases he
     exact ⟨by show 1 <= 1; omega, hsz, trivial, fun h' e => by cases e⟩
   . unfold zar; rw [hr]; show 1 <= _; omega
 . obtain ⟨⟨h, n⟩, hsome⟩ := Option.ne_none_iff_exists'.1 hn
   obtain ⟨t1, t2, t3, t4⟩ := ht.some_ h n hsome
   have hwn := hw.some_ h n hsome
   have hr : (t.put key v).root = some (za5 h (Tr.put h n key v)) := by unfold Tree.put; rw [hsome]
   obtain ⟨p1, p2⟩ := zd2 h _ _ n key v hwn (zav key) (zbr key) h1 h2
   obtain ⟨q1, q2⟩ := zsh h _ _ n key v hwn (zav key) (zbr key) h1 h2 t2 t1
   obtain ⟨c1, c2⟩ := zvl h n key v
   obtain ⟨g1, g2, g3, g4⟩ := z0q p1 q1 q2 (zvm h n key v t3) c1
   have hkeys : t.keys <= (t.put key v).keys := by unfold Tree.put; simp only; split <;> omega
   have hkp : (t.put key v).keys = (Tr.pairs h (Tr.put h n key v)).length := by
    rw [hw'.keys_, hpairs, p2]
    congr 2
    unfold Tree.pairs; rw [hsome]
   have htf : TF (t.put key v) := ⟨fun h' n' he => by
    rw [hr] at he
    injection he with he
    rw [he] at g1 g2 g3 g4
    refine ⟨g1, g2, g3, fun h'' e => ?_⟩
    subst e
    rcases g4 with ⟨ge, _⟩ | ⟨ge, gp, _⟩
    . have := t4 h'' ge.symm; omega
    . have : h = h'' := by simp only at ge; omega
      subst this
      omega⟩
   refine ⟨htf, ?_⟩
   have hlow : (za5 h (Tr.put h n key v)).1 <= 4 := htf.low hk (n := (za5 h (Tr.put h n key v)).2) (by rw [hr])
   unfold zar
   rw [hr, hsome]
   simp only
   rcases g4 with ⟨ge, gd⟩ | ⟨ge, _, gd⟩
   . rw [ge] at hlow; omega
   . omega
theorem zo8 : ∀ (h : Nat) (n : Tr h), Top h n -> Fit h n -> DU h n -> Rtl (shrink h n).1 (shrink h n).2 /\ Fit (shrink h n).1 (shrink h n).2 /\ DU (shrink h n).1 (shrink h n).2 /\ zae (shrink h n).1 (shrink h n).2 <= zae h n
 | 0, n, ht, hf, hd => ⟨ht, hf, hd, Nat.le_refl _⟩
 | h + 1, n, ht, hf, hd => by
   cases hx : Nd.es n with
   | nil =>
     exfalso
     rcases ht with ht | ⟨e, he, _⟩
     . have := ht.1; rw [hx] at this; simp at this
     . rw [hx] at he; cases he
   | cons e X =>
     cases X with
     | nil =>
       have hs := zeb hx
       rcases ht with ht | ⟨e', he, hte⟩
       . exfalso; have := ht.1; rw [hx] at this; simp at this
       . rw [hx] at he
         injection he with he _
         subst he
         have hm : e ∈ Nd.es n := by rw [hx]; simp
         obtain ⟨i1, i2, i3, i4⟩ := zo8 h e.2 hte (hf.2 e hm) (hd.2 e hm)
         rw [hs]
         refine ⟨i1, i2, i3, ?_⟩
         have : zak h (Nd.es n) = zae h e.2 := by rw [hx]; simp [zak]
         show _ <= (if Nd.dirty n then 1 else 0) + zak h (Nd.es n)
         omega
     | cons d X =>
       have hs := ze6 hx
       rw [hs]
       refine ⟨?_, hf, hd, Nat.le_refl _⟩
       rcases ht with ht | ⟨e', he, _⟩
       . exact ht
       . rw [hx] at he; cases he
theorem zvn {t : Tree} (hw : TW t) (ht : TF t) (key : Str) (hk : t.keys <= 129)
   (hfit : ∀ h n, t.root = some ⟨h, n⟩ -> there key (Tr.pairs h n) = true -> Top h (Tr.drop h n key) -> Semi h (Tr.drop h n key) -> Fit h (Tr.drop h n key)) : TF (t.delete key) /\ zar (t.delete key) <= zar t + 9 := by
 unfold Tree.delete
 cases hr : t.root with
 | none => exact ⟨ht, by simp⟩
 | some x =>
   obtain ⟨h, n⟩ := x
   simp only
   have hwn := hw.some_ h n hr
   obtain ⟨t1, t2, t3, t4⟩ := ht.some_ h n hr
   have hg : Tr.get h n key = lookup key (Tr.pairs h n) := zer h _ _ n key hwn (zav key)
   have hth : there key (Tr.pairs h n) = (Tr.get h n key).isSome := by rw [hg, zdd]
   cases hs : (Tr.get h n key).isSome with
   | false => exact ⟨ht, by simp⟩
   | true =>
     rw [hs] at hth
     simp only [if_true]
     have hkp := hw.keys_
     unfold Tree.pairs at hkp
     rw [hr] at hkp
     simp only at hkp
     by_cases h0 : t.keys - 1 = 0
     . rw [if_pos h0]
       exact ⟨⟨fun _ _ he => by cases he⟩, by unfold zar; simp⟩
     . rw [if_neg h0]
       have hl := (zdi key (Tr.pairs h n) (zc6 h _ _ n hwn).1 hth).1
       obtain ⟨d1, d2⟩ := zea h _ _ n key hwn (zav key) (zbr key) hth
       obtain ⟨q1, q2⟩ := zo4 h _ _ n key hwn (zav key) (zbr key) hth t2 t1 (by omega)
       obtain ⟨s1, s2, s3, s4⟩ := zo8 h _ q1 (hfit h n hr hth q1 q2) (zsl h n key t3)
       have sw := zi1 h _ d1
       obtain ⟨_, c2⟩ := zsj h n key
       have hlow := ht.low hk hr
       refine ⟨⟨fun h' n' he => ?_⟩, ?_⟩
       . injection he with he
         rw [he] at s1 s2 s3 sw
         refine ⟨s1.top _ _, s2, s3, fun h'' e => ?_⟩
         subst e
         have := ziz s1
         simp only at sw
         rw [sw.2, d2] at this
         show 4 * 3 ^ h'' <= t.keys - 1
         omega
       . unfold zar
         rw [hr]
         simp only
         omega
end Go.Proofs.YtemondlgcmpbbaaGreatDoor
