/- Wa Wb: merged. -/
import Derived.Test.YtemondlgcmpbbaaGreatDoorMC01
/- Walks: slices.Clone at pairs and at children. -/
namespace Go.Proofs.YtemondlgcmpbbaaGreatDoor
open Go.RowKit

theorem info_pair : (Tryz.prog.info? 68).map (fun i => (i.zero, i.size, i.bytes)) = some (some (.agg #[.string ByteArray.empty, .string ByteArray.empty]), 2, 32) := by kernel_rfl
theorem info_kid : (Tryz.prog.info? 139).map (fun i => (i.zero, i.size, i.bytes)) = some (some (.agg #[.string ByteArray.empty, .pointer none]), 2, 24) := by kernel_rfl

theorem len_le {n : Nat} (h : n ≤ 1000) : 0 + n ≤ maxLen := by simp only [maxLen]; omega
theorem bytes_le {n b : Nat} (h : n ≤ 1000) (hb : b ≤ 1000) : (0 + n) * b ≤ 140737488355328 := by
  have : (0 + n) * b ≤ 1000 * 1000 := Nat.mul_le_mul (by omega) hb
  omega


theorem clone_pair (A : Option Addr) (n c : Nat) (xs : List Value) (w : World) (hr : Reads w w.heap.size 2 A n xs) (h1 : ∀ u ∈ xs, u.oneCell' = true) (hn : n ≤ 1000) (hA : A = none → n = 0) :
    Calls Tryz.prog 128 #[.slice A n c] w fun e w' => ∃ v, e = .returned v ∧ w'.ownsRow w.heap.size 68 2 v n xs ∧ Below w.heap.size w w' := by
  obtain ⟨i0, hi0, hz0, hz1, hz2⟩ := info_parts info_pair
  have hnil := fun (wx : World) => Lib.run_eql_slice_nil (P := Tryz.prog) wx 39 68 A n c 0 0 Tryz.underlying39
  cases A with
  | none =>
    have : n = 0 := hA rfl
    subst this
    have hx : xs = [] := List.eq_nil_of_length_eq_zero (by simpa using hr.1)
    subst hx
    go_enter Tryz.func128, Tryz.ntmps128
    go_wp2
    go_ret
    exact ⟨_, rfl, World.ownsRow_nil _ _ _ _, Below.refl _ _⟩
  | some a =>
    have k1 := len_le hn
    have k2 := bytes_le hn (show 32 ≤ 1000 by omega)
    have k3 : w.heap.size ≤ (w.alloc (Obj.cells #[] 68)).heap.size := by simp
    have k0 : (0 : Nat) ≤ maxLen := Nat.zero_le _
    go_enter Tryz.func128, Tryz.ntmps128
    go_wp2_with (at_builtin; refine wpList_append_any _ rfl (.tmp 5) (.tmp 6) _ rfl w.heap.size 68 i0 _ 2 32 Tryz.underlying39 hi0 hz0 hz1 hz2 rfl (by omega) (.slice (some ⟨w.heap.size, 0, none⟩) 0 0) 0 [] rfl (World.ownsRow_made _ _ _ (Nat.le_refl _) k0 rfl) w.heap.size (some a) n c xs rfl (hr.alloc (Nat.le_refl _) _) h1 k1 k2 k3 ?_; intro v1 w1 hown1 hg1 hat1)
    go_ret
    refine ⟨v1, rfl, by simpa using hown1, ((Below.refl _ _).alloc (Nat.le_refl _) _).grown hg1 (by simp) fun k hk => ?_⟩
    simp only [Value.ownBlock, Option.some.injEq] at hk
    omega

theorem clone_kid (A : Option Addr) (n c : Nat) (xs : List Value) (w : World) (hr : Reads w w.heap.size 2 A n xs) (h1 : ∀ u ∈ xs, u.oneCell' = true) (hn : n ≤ 1000) (hA : A = none → n = 0) :
    Calls Tryz.prog 131 #[.slice A n c] w fun e w' => ∃ v, e = .returned v ∧ w'.ownsRow w.heap.size 139 2 v n xs ∧ Below w.heap.size w w' := by
  obtain ⟨i0, hi0, hz0, hz1, hz2⟩ := info_parts info_kid
  have hnil := fun (wx : World) => Lib.run_eql_slice_nil (P := Tryz.prog) wx 135 139 A n c 0 0 Tryz.underlying135
  cases A with
  | none =>
    have : n = 0 := hA rfl
    subst this
    have hx : xs = [] := List.eq_nil_of_length_eq_zero (by simpa using hr.1)
    subst hx
    go_enter Tryz.func131, Tryz.ntmps131
    go_wp2
    go_ret
    exact ⟨_, rfl, World.ownsRow_nil _ _ _ _, Below.refl _ _⟩
  | some a =>
    have k1 := len_le hn
    have k2 := bytes_le hn (show 24 ≤ 1000 by omega)
    have k3 : w.heap.size ≤ (w.alloc (Obj.cells #[] 139)).heap.size := by simp
    have k0 : (0 : Nat) ≤ maxLen := Nat.zero_le _
    go_enter Tryz.func131, Tryz.ntmps131
    go_wp2_with (at_builtin; refine wpList_append_any _ rfl (.tmp 5) (.tmp 6) _ rfl w.heap.size 139 i0 _ 2 24 Tryz.underlying135 hi0 hz0 hz1 hz2 rfl (by omega) (.slice (some ⟨w.heap.size, 0, none⟩) 0 0) 0 [] rfl (World.ownsRow_made _ _ _ (Nat.le_refl _) k0 rfl) w.heap.size (some a) n c xs rfl (hr.alloc (Nat.le_refl _) _) h1 k1 k2 k3 ?_; intro v1 w1 hown1 hg1 hat1)
    go_ret
    refine ⟨v1, rfl, by simpa using hown1, ((Below.refl _ _).alloc (Nat.le_refl _) _).grown hg1 (by simp) fun k hk => ?_⟩
    simp only [Value.ownBlock, Option.some.injEq] at hk
    omega

end Go.Proofs.YtemondlgcmpbbaaGreatDoor

/- Walks: slices.Delete of one element in a row of one's own. -/
namespace Go.Proofs.YtemondlgcmpbbaaGreatDoor
open Go.RowKit

theorem zero_pair (w : World) : (zeroValue 68).run Tryz.prog w = .ok (.agg #[.string ByteArray.empty, .string ByteArray.empty]) w := by kernel_rfl

set_option maxRecDepth 100000 in
set_option maxHeartbeats 400000 in
/-- slices.Delete of one element of a row of one's own. -/
theorem delete_pair (g m c i : Nat) (cur : List Value) (w : World) (hb : Blk w g 68 cur.toArray) (hlen : cur.length = c * 2) (hn : m + 1 ≤ c) (hn2 : m ≤ 1000) (hi : i ≤ m) (h1 : ∀ u ∈ cur.take ((m + 1) * 2), u.oneCell' = true) (hc : c ≤ maxLen) :
    Calls Tryz.prog 119 #[.slice (some ⟨g, 0, none⟩) (m + 1) c, .int .i64 i, .int .i64 (i + 1)] w fun e w' => ∃ cur' : List Value, e = .returned (.slice (some ⟨g, 0, none⟩) m c) ∧ w.grownBy w' (some g) ∧ w'.heap.size = w.heap.size ∧
      Blk w' g 68 cur'.toArray ∧ cur'.length = c * 2 ∧ cur'.take (m * 2) = cur.take (i * 2) ++ (cur.take ((m + 1) * 2)).drop (i * 2 + 2) := by
  unfold maxLen at hc
  obtain ⟨i0, hi0, hz0, hz1, hz2⟩ := info_parts info_pair
  obtain ⟨news, hnd⟩ : ∃ l, l = (cur.take ((m + 1) * 2)).drop (i * 2 + 2) := ⟨_, rfl⟩
  have hnl : news.length = (m - i) * 2 := by rw [hnd]; simp only [List.length_drop, List.length_take]; omega
  have hn1 : ∀ u ∈ news, u.oneCell' = true := fun u hu => h1 u (by rw [hnd] at hu; exact List.mem_of_mem_drop hu)
  have hroom : i + (m - i) ≤ c := by omega
  have hfit : i * 2 + news.length ≤ cur.length := by omega
  have hfit2 : m * 2 + 2 ≤ (spl cur (i * 2) news).length := by rw [spl_length hfit]; omega
  have q1 : i ≤ c := by omega
  have q4 : (0 : Int) ≤ (i : Int) + 1 := by omega
  have q5 : (i : Int) + 1 ≤ (m : Int) + 1 := by omega
  have q6 : (i : Int) + 1 ≤ (c : Int) := by omega
  have q7 : ¬ c = m := by omega
  have q8 : m + 1 - m = 1 := by omega
  have e1 : ((i : Int) == (i : Int) + 1) = false := by rw [beq_eq_false_iff_ne]; omega
  have hwr : IntKind.i64.wrap ((i : Int) + 1) = (i : Int) + 1 := by rw [IntKind.wrap_i64]; omega
  have hp2 : ((i : Int) + 1).toNat = i + 1 := by omega
  have hk : i + (m - i) = m := by omega
  have hend : (spl (spl cur (i * 2) news) (m * 2) [.string ByteArray.empty, .string ByteArray.empty]).take (m * 2) = cur.take (i * 2) ++ news := by
    have hl : (cur.take (i * 2) ++ news).length = m * 2 := by simp only [List.length_append, List.length_take, hnl]; omega
    have h2 : (spl cur (i * 2) news).take (m * 2) = cur.take (i * 2) ++ news := by
      unfold spl
      rw [← hl]
      exact List.take_left
    unfold spl at h2 ⊢
    rw [h2, List.append_assoc, ← hl]
    exact List.take_left
  have hz := zero_pair
  obtain ⟨ad, hA, hnews⟩ : ∃ ad : Addr, (if c = i + 1 then some (⟨g, 0, none⟩ : Addr) else some ⟨g, (i + 1) * 2, none⟩) = some ad ∧ ∀ j u, news[j]? = some u → w.drew.cell? (ad.add j) = some u := by
    by_cases h : c = i + 1
    · refine ⟨⟨g, 0, none⟩, by simp [h], fun j u hu => ?_⟩
      have h0 : news.length = 0 := by omega
      rw [List.length_eq_zero_iff.1 h0] at hu
      simp at hu
    · refine ⟨⟨g, (i + 1) * 2, none⟩, by simp [h], fun j u hu => ?_⟩
      have hjl : j < news.length := (List.getElem?_eq_some_iff.1 hu).1
      rw [hnd, List.getElem?_drop, List.getElem?_take, if_pos (by omega)] at hu
      have ha : (⟨g, (i + 1) * 2, none⟩ : Addr).add j = ⟨g, i * 2 + 2 + j, none⟩ := by
        unfold Addr.add
        split
        · subst_vars; simp
        · simp; omega
      rw [ha, World.cell?_drew, hb.cell]
      simpa using hu
  have HN := hide hnews
  have HD := hide hnd
  have HL := hide hnl
  have HC := hide hlen
  have H1 := hide hn1
  have HF := hide hfit
  have HF2 := hide hfit2
  have HR := hide hroom
  have HE := hide hend
  clear hnd hnl hlen hnews hn1 hfit hroom h1 hend hfit2
  go_enter Tryz.func119, Tryz.ntmps119
  go_wp2_with fail
  go_region_law (refine step_append_in _ rfl (.tmp 22) (.tmp 25) 39 rfl 68 i0 2 Tryz.underlying39 hi0 hz1 g i c (by simp [Act.eval, Act.put]) cur hb.drew ad (m - i) (c - (i + 1)) (by simp [Act.eval, Act.put]) news HL.out HN.out H1.out HR.out HF.out ?_; intro w1 hb1 hg1 hs1)
  all_goals
    go_wp2_with (refine wpList_clear_sz _ rfl (.tmp 31) 39 rfl 68 (.agg #[.string ByteArray.empty, .string ByteArray.empty]) Tryz.underlying39 (hz _) 2 rfl (by decide) g (m * 2) (c - m) rfl (spl cur (i * 2) news) 68 hb1 HF2.out ?_; intro w2 hb2 hg2 hs2)
    go_ret
    refine ⟨_, rfl, ?_, ?_, hb2, ?_, ?_⟩
    · have hg := hg1.trans hg2
      exact ⟨hg.os, hg.tape, hg.output, hg.size, hg.block⟩
    · rw [hs2, hs1]; rfl
    · rw [spl_length HF2.out, spl_length HF.out]; exact HC.out
    · rw [← HD.out]; exact HE.out

theorem zero_kid (w : World) : (zeroValue 139).run Tryz.prog w = .ok (.agg #[.string ByteArray.empty, .pointer none]) w := by kernel_rfl

set_option maxRecDepth 100000 in
set_option maxHeartbeats 400000 in
/-- slices.Delete of one element of a row of one's own. -/
theorem delete_kid (g m c i : Nat) (cur : List Value) (w : World) (hb : Blk w g 139 cur.toArray) (hlen : cur.length = c * 2) (hn : m + 1 ≤ c) (hn2 : m ≤ 1000) (hi : i ≤ m) (h1 : ∀ u ∈ cur.take ((m + 1) * 2), u.oneCell' = true) (hc : c ≤ maxLen) :
    Calls Tryz.prog 163 #[.slice (some ⟨g, 0, none⟩) (m + 1) c, .int .i64 i, .int .i64 (i + 1)] w fun e w' => ∃ cur' : List Value, e = .returned (.slice (some ⟨g, 0, none⟩) m c) ∧ w.grownBy w' (some g) ∧ w'.heap.size = w.heap.size ∧
      Blk w' g 139 cur'.toArray ∧ cur'.length = c * 2 ∧ cur'.take (m * 2) = cur.take (i * 2) ++ (cur.take ((m + 1) * 2)).drop (i * 2 + 2) := by
  unfold maxLen at hc
  obtain ⟨i0, hi0, hz0, hz1, hz2⟩ := info_parts info_kid
  obtain ⟨news, hnd⟩ : ∃ l, l = (cur.take ((m + 1) * 2)).drop (i * 2 + 2) := ⟨_, rfl⟩
  have hnl : news.length = (m - i) * 2 := by rw [hnd]; simp only [List.length_drop, List.length_take]; omega
  have hn1 : ∀ u ∈ news, u.oneCell' = true := fun u hu => h1 u (by rw [hnd] at hu; exact List.mem_of_mem_drop hu)
  have hroom : i + (m - i) ≤ c := by omega
  have hfit : i * 2 + news.length ≤ cur.length := by omega
  have hfit2 : m * 2 + 2 ≤ (spl cur (i * 2) news).length := by rw [spl_length hfit]; omega
  have q1 : i ≤ c := by omega
  have q4 : (0 : Int) ≤ (i : Int) + 1 := by omega
  have q5 : (i : Int) + 1 ≤ (m : Int) + 1 := by omega
  have q6 : (i : Int) + 1 ≤ (c : Int) := by omega
  have q7 : ¬ c = m := by omega
  have q8 : m + 1 - m = 1 := by omega
  have e1 : ((i : Int) == (i : Int) + 1) = false := by rw [beq_eq_false_iff_ne]; omega
  have hwr : IntKind.i64.wrap ((i : Int) + 1) = (i : Int) + 1 := by rw [IntKind.wrap_i64]; omega
  have hp2 : ((i : Int) + 1).toNat = i + 1 := by omega
  have hk : i + (m - i) = m := by omega
  have hend : (spl (spl cur (i * 2) news) (m * 2) [.string ByteArray.empty, .pointer none]).take (m * 2) = cur.take (i * 2) ++ news := by
    have hl : (cur.take (i * 2) ++ news).length = m * 2 := by simp only [List.length_append, List.length_take, hnl]; omega
    have h2 : (spl cur (i * 2) news).take (m * 2) = cur.take (i * 2) ++ news := by
      unfold spl
      rw [← hl]
      exact List.take_left
    unfold spl at h2 ⊢
    rw [h2, List.append_assoc, ← hl]
    exact List.take_left
  have hz := zero_kid
  obtain ⟨ad, hA, hnews⟩ : ∃ ad : Addr, (if c = i + 1 then some (⟨g, 0, none⟩ : Addr) else some ⟨g, (i + 1) * 2, none⟩) = some ad ∧ ∀ j u, news[j]? = some u → w.drew.cell? (ad.add j) = some u := by
    by_cases h : c = i + 1
    · refine ⟨⟨g, 0, none⟩, by simp [h], fun j u hu => ?_⟩
      have h0 : news.length = 0 := by omega
      rw [List.length_eq_zero_iff.1 h0] at hu
      simp at hu
    · refine ⟨⟨g, (i + 1) * 2, none⟩, by simp [h], fun j u hu => ?_⟩
      have hjl : j < news.length := (List.getElem?_eq_some_iff.1 hu).1
      rw [hnd, List.getElem?_drop, List.getElem?_take, if_pos (by omega)] at hu
      have ha : (⟨g, (i + 1) * 2, none⟩ : Addr).add j = ⟨g, i * 2 + 2 + j, none⟩ := by
        unfold Addr.add
        split
        · subst_vars; simp
        · simp; omega
      rw [ha, World.cell?_drew, hb.cell]
      simpa using hu
  have HN := hide hnews
  have HD := hide hnd
  have HL := hide hnl
  have HC := hide hlen
  have H1 := hide hn1
  have HF := hide hfit
  have HF2 := hide hfit2
  have HR := hide hroom
  have HE := hide hend
  clear hnd hnl hlen hnews hn1 hfit hroom h1 hend hfit2
  go_enter Tryz.func163, Tryz.ntmps163
  go_wp2_with fail
  go_region_law (refine step_append_in _ rfl (.tmp 22) (.tmp 25) 135 rfl 139 i0 2 Tryz.underlying135 hi0 hz1 g i c (by simp [Act.eval, Act.put]) cur hb.drew ad (m - i) (c - (i + 1)) (by simp [Act.eval, Act.put]) news HL.out HN.out H1.out HR.out HF.out ?_; intro w1 hb1 hg1 hs1)
  all_goals
    go_wp2_with (refine wpList_clear_sz _ rfl (.tmp 31) 135 rfl 139 (.agg #[.string ByteArray.empty, .pointer none]) Tryz.underlying135 (hz _) 2 rfl (by decide) g (m * 2) (c - m) rfl (spl cur (i * 2) news) 139 hb1 HF2.out ?_; intro w2 hb2 hg2 hs2)
    go_ret
    refine ⟨_, rfl, ?_, ?_, hb2, ?_, ?_⟩
    · have hg := hg1.trans hg2
      exact ⟨hg.os, hg.tape, hg.output, hg.size, hg.block⟩
    · rw [hs2, hs1]; rfl
    · rw [spl_length HF2.out, spl_length HF.out]; exact HC.out
    · rw [← HD.out]; exact HE.out

end Go.Proofs.YtemondlgcmpbbaaGreatDoor
