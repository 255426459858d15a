/- Wa Wb Wc: merged. -/
import Derived.Test.YtemondlgcmpbbaaGreatDoorMX01
import Derived.Lib.Overlaps
namespace Go.Proofs.YtemondlgcmpbbaaGreatDoor
open Go.RowKit
set_option maxRecDepth 100000
theorem zdc : (Tryz.prog.info? 68).map (fun i => (i.zero, i.size, i.bytes)) = some (some (.agg #[.string ByteArray.empty, .string ByteArray.empty]), 2, 32) := by kernel_rfl
theorem zec : (Tryz.prog.info? 139).map (fun i => (i.zero, i.size, i.bytes)) = some (some (.agg #[.string ByteArray.empty, .pointer none]), 2, 24) := by kernel_rfl
theorem zqs {n : Nat} (h : n <= 1000) : 0 + n <= maxLen := by simp only [maxLen]; omega
theorem zlp {n b : Nat} (h : n <= 1000) (hb : b <= 1000) : (0 + n) * b <= 140737488355328 := by
 have : (0 + n) * b <= 1000 * 1000 := Nat.mul_le_mul (by omega) hb
 omega
theorem zo2 (A : Option Addr) (n c : Nat) (xs : List Value) (w : World) (hr : Reads w w.heap.size 2 A n xs) (h1 : ∀ u ∈ xs, u.oneCell' = true) (hn : n <= 1000) (hA : A = none -> n = 0) :
   Calls Tryz.prog 128 #[.slice A n c] w fun e w' => ∃ v, e = .returned v /\ w'.ownsRow w.heap.size 68 2 v n xs /\ Below w.heap.size w w' := by
 obtain ⟨i0, hi0, hz0, hz1, hz2⟩ := info_parts zdc
 have hnil := fun (wx : World) => Lib.run_eql_slice_nil (P := Tryz.prog) wx 39 68 A n c 0 0 Tryz.underlying39
 cases A with
 | none =>
   have : n = 0 := hA rfl
   subst this
   have hx : xs = [] := List.eq_nil_of_length_eq_zero (by simpa using hr.1)
   subst hx
   go_enter Tryz.func128, Tryz.ntmps128
   go_wp2
   go_ret
   exact ⟨_, rfl, World.ownsRow_nil _ _ _ _, Below.refl _ _⟩
 | some a =>
   have k1 := zqs hn
   have k2 := zlp hn (show 32 <= 1000 by omega)
   have k3 : w.heap.size <= (w.alloc (Obj.cells #[] 68)).heap.size := by simp
   have k0 : (0 : Nat) <= maxLen := Nat.zero_le _
   go_enter Tryz.func128, Tryz.ntmps128
   go_wp2_with (at_builtin; refine zah _ rfl (.tmp 5) (.tmp 6) _ rfl w.heap.size 68 i0 _ 2 32 Tryz.underlying39 hi0 hz0 hz1 hz2 rfl (by omega) (.slice (some ⟨w.heap.size, 0, none⟩) 0 0) 0 [] rfl (World.ownsRow_made _ _ _ (Nat.le_refl _) k0 rfl) w.heap.size (some a) n c xs rfl (hr.alloc (Nat.le_refl _) _) h1 k1 k2 k3 ?_; intro v1 w1 hown1 hg1 hat1)
   go_ret
   refine ⟨v1, rfl, by simpa using hown1, ((Below.refl _ _).alloc (Nat.le_refl _) _).grown hg1 (by simp) fun k hk => ?_⟩
   simp only [Value.ownBlock, Option.some.injEq] at hk
   omega
theorem zqt (A : Option Addr) (n c : Nat) (xs : List Value) (w : World) (hr : Reads w w.heap.size 2 A n xs) (h1 : ∀ u ∈ xs, u.oneCell' = true) (hn : n <= 1000) (hA : A = none -> n = 0) :
   Calls Tryz.prog 131 #[.slice A n c] w fun e w' => ∃ v, e = .returned v /\ w'.ownsRow w.heap.size 139 2 v n xs /\ Below w.heap.size w w' := by
 obtain ⟨i0, hi0, hz0, hz1, hz2⟩ := info_parts zec
 have hnil := fun (wx : World) => Lib.run_eql_slice_nil (P := Tryz.prog) wx 135 139 A n c 0 0 Tryz.underlying135
 cases A with
 | none =>
   have : n = 0 := hA rfl
   subst this
   have hx : xs = [] := List.eq_nil_of_length_eq_zero (by simpa using hr.1)
   subst hx
   go_enter Tryz.func131, Tryz.ntmps131
   go_wp2
   go_ret
   exact ⟨_, rfl, World.ownsRow_nil _ _ _ _, Below.refl _ _⟩
 | some a =>
   have k1 := zqs hn
   have k2 := zlp hn (show 24 <= 1000 by omega)
   have k3 : w.heap.size <= (w.alloc (Obj.cells #[] 139)).heap.size := by simp
   have k0 : (0 : Nat) <= maxLen := Nat.zero_le _
   go_enter Tryz.func131, Tryz.ntmps131
   go_wp2_with (at_builtin; refine zah _ rfl (.tmp 5) (.tmp 6) _ rfl w.heap.size 139 i0 _ 2 24 Tryz.underlying135 hi0 hz0 hz1 hz2 rfl (by omega) (.slice (some ⟨w.heap.size, 0, none⟩) 0 0) 0 [] rfl (World.ownsRow_made _ _ _ (Nat.le_refl _) k0 rfl) w.heap.size (some a) n c xs rfl (hr.alloc (Nat.le_refl _) _) h1 k1 k2 k3 ?_; intro v1 w1 hown1 hg1 hat1)
   go_ret
   refine ⟨v1, rfl, by simpa using hown1, ((Below.refl _ _).alloc (Nat.le_refl _) _).grown hg1 (by simp) fun k hk => ?_⟩
   simp only [Value.ownBlock, Option.some.injEq] at hk
   omega
theorem zqu (w : World) : (zeroValue 68).run Tryz.prog w = .ok (.agg #[.string ByteArray.empty, .string ByteArray.empty]) w := by kernel_rfl
set_option maxHeartbeats 400000 in
theorem zng (g m c i : Nat) (cur : List Value) (w : World) (hb : Blk w g 68 cur.toArray) (hlen : cur.length = c * 2) (hn : m + 1 <= c) (hn2 : m <= 1000) (hi : i <= m) (h1 : ∀ u ∈ cur.take ((m + 1) * 2), u.oneCell' = true) (hc : c <= maxLen) :
   Calls Tryz.prog 119 #[.slice (some ⟨g, 0, none⟩) (m + 1) c, .int .i64 i, .int .i64 (i + 1)] w fun e w' => ∃ cur' : List Value, e = .returned (.slice (some ⟨g, 0, none⟩) m c) /\ w.grownBy w' (some g) /\ w'.heap.size = w.heap.size /\
    Blk w' g 68 cur'.toArray /\ cur'.length = c * 2 /\ cur'.take (m * 2) = cur.take (i * 2) ++ (cur.take ((m + 1) * 2)).drop (i * 2 + 2) := by
 unfold maxLen at hc
 obtain ⟨i0, hi0, hz0, hz1, hz2⟩ := info_parts zdc
 obtain ⟨news, hnd⟩ : ∃ l, l = (cur.take ((m + 1) * 2)).drop (i * 2 + 2) := ⟨_, rfl⟩
 have hnl : news.length = (m - i) * 2 := by rw [hnd]; simp only [List.length_drop, List.length_take]; omega
 have hn1 : ∀ u ∈ news, u.oneCell' = true := fun u hu => h1 u (by rw [hnd] at hu; exact List.mem_of_mem_drop hu)
 have hroom : i + (m - i) <= c := by omega
 have hfit : i * 2 + news.length <= cur.length := by omega
 have hfit2 : m * 2 + 2 <= (spl cur (i * 2) news).length := by rw [zav hfit]; omega
 have q1 : i <= c := by omega
 have q4 : (0 : Int) <= (i : Int) + 1 := by omega
 have q5 : (i : Int) + 1 <= (m : Int) + 1 := by omega
 have q6 : (i : Int) + 1 <= (c : Int) := by omega
 have q7 : ¬ c = m := by omega
 have q8 : m + 1 - m = 1 := by omega
 have e1 : ((i : Int) == (i : Int) + 1) = false := by rw [beq_eq_false_iff_ne]; omega
 have hwr : IntKind.i64.wrap ((i : Int) + 1) = (i : Int) + 1 := by rw [IntKind.wrap_i64]; omega
 have hp2 : ((i : Int) + 1).toNat = i + 1 := by omega
 have hk : i + (m - i) = m := by omega
 have hend : (spl (spl cur (i * 2) news) (m * 2) [.string ByteArray.empty, .string ByteArray.empty]).take (m * 2) = cur.take (i * 2) ++ news := by
  have hl : (cur.take (i * 2) ++ news).length = m * 2 := by simp only [List.length_append, List.length_take, hnl]; omega
  have h2 : (spl cur (i * 2) news).take (m * 2) = cur.take (i * 2) ++ news := by
   unfold spl
   rw [<- hl]
   exact List.take_left
  unfold spl at h2 ⊢
  rw [h2, List.append_assoc, <- hl]
  exact List.take_left
 have hz := zqu
 obtain ⟨ad, hA, hnews⟩ : ∃ ad : Addr, (if c = i + 1 then some (⟨g, 0, none⟩ : Addr) else some ⟨g, (i + 1) * 2, none⟩) = some ad /\ ∀ j u, news[j]? = some u -> w.drew.cell? (ad.add j) = some u := by
  by_cases h : c = i + 1
  . refine ⟨⟨g, 0, none⟩, by simp [h], fun j u hu => ?_⟩
    have h0 : news.length = 0 := by omega
    rw [List.length_eq_zero_iff.1 h0] at hu
    simp at hu
  . refine ⟨⟨g, (i + 1) * 2, none⟩, by simp [h], fun j u hu => ?_⟩
    have hjl : j < news.length := (List.getElem?_eq_some_iff.1 hu).1
    rw [hnd, List.getElem?_drop, List.getElem?_take, if_pos (by omega)] at hu
    have ha : (⟨g, (i + 1) * 2, none⟩ : Addr).add j = ⟨g, i * 2 + 2 + j, none⟩ := by
     unfold Addr.add
     split
     . subst_vars; simp
     . simp; omega
    rw [ha, World.cell?_drew, hb.cell]
    simpa using hu
 have HN := zaa hnews
 have HD := zaa hnd
 have HL := zaa hnl
 have HC := zaa hlen
 have H1 := zaa hn1
 have HF := zaa hfit
 have HF2 := zaa hfit2
 have HR := zaa hroom
 have HE := zaa hend
 clear hnd hnl hlen hnews hn1 hfit hroom h1 hend hfit2
 go_enter Tryz.func119, Tryz.ntmps119
 go_wp2_with fail
 go_region_law (refine zf2 _ rfl (.tmp 22) (.tmp 25) 39 rfl 68 i0 2 Tryz.underlying39 hi0 hz1 g i c (by simp [Act.eval, Act.put]) cur hb.drew ad (m - i) (c - (i + 1)) (by simp [Act.eval, Act.put]) news HL.out HN.out H1.out HR.out HF.out ?_; intro w1 hb1 hg1 hs1)
 all_goals
  go_wp2_with (refine zfl _ rfl (.tmp 31) 39 rfl 68 (.agg #[.string ByteArray.empty, .string ByteArray.empty]) Tryz.underlying39 (hz _) 2 rfl (by decide) g (m * 2) (c - m) rfl (spl cur (i * 2) news) 68 hb1 HF2.out ?_; intro w2 hb2 hg2 hs2)
  go_ret
  refine ⟨_, rfl, ?_, ?_, hb2, ?_, ?_⟩
  . have hg := hg1.trans hg2
    exact ⟨hg.os, hg.tape, hg.output, hg.size, hg.block⟩
  . rw [hs2, hs1]; rfl
  . rw [zav HF2.out, zav HF.out]; exact HC.out
  . rw [<- HD.out]; exact HE.out
theorem zsi (w : World) : (zeroValue 139).run Tryz.prog w = .ok (.agg #[.string ByteArray.empty, .pointer none]) w := by kernel_rfl
set_option maxHeartbeats 400000 in
theorem zo3 (g m c i : Nat) (cur : List Value) (w : World) (hb : Blk w g 139 cur.toArray) (hlen : cur.length = c * 2) (hn : m + 1 <= c) (hn2 : m <= 1000) (hi : i <= m) (h1 : ∀ u ∈ cur.take ((m + 1) * 2), u.oneCell' = true) (hc : c <= maxLen) :
   Calls Tryz.prog 163 #[.slice (some ⟨g, 0, none⟩) (m + 1) c, .int .i64 i, .int .i64 (i + 1)] w fun e w' => ∃ cur' : List Value, e = .returned (.slice (some ⟨g, 0, none⟩) m c) /\ w.grownBy w' (some g) /\ w'.heap.size = w.heap.size /\
    Blk w' g 139 cur'.toArray /\ cur'.length = c * 2 /\ cur'.take (m * 2) = cur.take (i * 2) ++ (cur.take ((m + 1) * 2)).drop (i * 2 + 2) := by
 unfold maxLen at hc
 obtain ⟨i0, hi0, hz0, hz1, hz2⟩ := info_parts zec
 obtain ⟨news, hnd⟩ : ∃ l, l = (cur.take ((m + 1) * 2)).drop (i * 2 + 2) := ⟨_, rfl⟩
 have hnl : news.length = (m - i) * 2 := by rw [hnd]; simp only [List.length_drop, List.length_take]; omega
 have hn1 : ∀ u ∈ news, u.oneCell' = true := fun u hu => h1 u (by rw [hnd] at hu; exact List.mem_of_mem_drop hu)
 have hroom : i + (m - i) <= c := by omega
 have hfit : i * 2 + news.length <= cur.length := by omega
 have hfit2 : m * 2 + 2 <= (spl cur (i * 2) news).length := by rw [zav hfit]; omega
 have q1 : i <= c := by omega
 have q4 : (0 : Int) <= (i : Int) + 1 := by omega
 have q5 : (i : Int) + 1 <= (m : Int) + 1 := by omega
 have q6 : (i : Int) + 1 <= (c : Int) := by omega
 have q7 : ¬ c = m := by omega
 have q8 : m + 1 - m = 1 := by omega
 have e1 : ((i : Int) == (i : Int) + 1) = false := by rw [beq_eq_false_iff_ne]; omega
 have hwr : IntKind.i64.wrap ((i : Int) + 1) = (i : Int) + 1 := by rw [IntKind.wrap_i64]; omega
 have hp2 : ((i : Int) + 1).toNat = i + 1 := by omega
 have hk : i + (m - i) = m := by omega
 have hend : (spl (spl cur (i * 2) news) (m * 2) [.string ByteArray.empty, .pointer none]).take (m * 2) = cur.take (i * 2) ++ news := by
  have hl : (cur.take (i * 2) ++ news).length = m * 2 := by simp only [List.length_append, List.length_take, hnl]; omega
  have h2 : (spl cur (i * 2) news).take (m * 2) = cur.take (i * 2) ++ news := by
   unfold spl
   rw [<- hl]
   exact List.take_left
  unfold spl at h2 ⊢
  rw [h2, List.append_assoc, <- hl]
  exact List.take_left
 have hz := zsi
 obtain ⟨ad, hA, hnews⟩ : ∃ ad : Addr, (if c = i + 1 then some (⟨g, 0, none⟩ : Addr) else some ⟨g, (i + 1) * 2, none⟩) = some ad /\ ∀ j u, news[j]? = some u -> w.drew.cell? (ad.add j) = some u := by
  by_cases h : c = i + 1
  . refine ⟨⟨g, 0, none⟩, by simp [h], fun j u hu => ?_⟩
    have h0 : news.length = 0 := by omega
    rw [List.length_eq_zero_iff.1 h0] at hu
    simp at hu
  . refine ⟨⟨g, (i + 1) * 2, none⟩, by simp [h], fun j u hu => ?_⟩
    have hjl : j < news.length := (List.getElem?_eq_some_iff.1 hu).1
    rw [hnd, List.getElem?_drop, List.getElem?_take, if_pos (by omega)] at hu
    have ha : (⟨g, (i + 1) * 2, none⟩ : Addr).add j = ⟨g, i * 2 + 2 + j, none⟩ := by
     unfold Addr.add
     split
     . subst_vars; simp
     . simp; omega
    rw [ha, World.cell?_drew, hb.cell]
    simpa using hu
 have HN := zaa hnews
 have HD := zaa hnd
 have HL := zaa hnl
 have HC := zaa hlen
 have H1 := zaa hn1
 have HF := zaa hfit
 have HF2 := zaa hfit2
 have HR := zaa hroom
 have HE := zaa hend
 clear hnd hnl hlen hnews hn1 hfit hroom h1 hend hfit2
 go_enter Tryz.func163, Tryz.ntmps163
 go_wp2_with fail
 go_region_law (refine zf2 _ rfl (.tmp 22) (.tmp 25) 135 rfl 139 i0 2 Tryz.underlying135 hi0 hz1 g i c (by simp [Act.eval, Act.put]) cur hb.drew ad (m - i) (c - (i + 1)) (by simp [Act.eval, Act.put]) news HL.out HN.out H1.out HR.out HF.out ?_; intro w1 hb1 hg1 hs1)
 all_goals
  go_wp2_with (refine zfl _ rfl (.tmp 31) 135 rfl 139 (.agg #[.string ByteArray.empty, .pointer none]) Tryz.underlying135 (hz _) 2 rfl (by decide) g (m * 2) (c - m) rfl (spl cur (i * 2) news) 139 hb1 HF2.out ?_; intro w2 hb2 hg2 hs2)
  go_ret
  refine ⟨_, rfl, ?_, ?_, hb2, ?_, ?_⟩
  . have hg := hg1.trans hg2
    exact ⟨hg.os, hg.tape, hg.output, hg.size, hg.block⟩
  . rw [hs2, hs1]; rfl
  . rw [zav HF2.out, zav HF.out]; exact HC.out
  . rw [<- HD.out]; exact HE.out
set_option maxHeartbeats 400000 in
theorem zi5 (base n gv : Nat) (A : Option Addr) (c : Nat) (xs : List Value) (x1 x2 : Value) (w : World) (hown : w.ownsRow base 68 2 (.slice A n c) n xs) (hv : Blk w gv 68 #[x1, x2]) (hn : n <= 1000) (hn1 : ∀ u ∈ [x1, x2], u.oneCell' = true) (hbase : base <= w.heap.size) (_hc : c <= maxLen) :
   Calls Tryz.prog 124 #[.slice A n c, .int .i64 n, .slice (some ⟨gv, 0, none⟩) 1 1] w fun e w' => ∃ v', e = .returned v' /\ w'.ownsRow base 68 2 v' (n + 1) (xs ++ [x1, x2]) /\ w.grownBy w' (Value.ownBlock (.slice A n c)) /\ (v'.ownBlock = Value.ownBlock (.slice A n c) \/ ∃ g', v'.ownBlock = some g' /\ w.heap.size <= g') := by
 obtain ⟨i0, hi0, hz0, hz1, hz2⟩ := info_parts zdc
 unfold maxLen at _hc
 have HI0 := zaa hi0
 have HZ0 := zaa hz0
 have HZ1 := zaa hz1
 have HZ2 := zaa hz2
 have k1 : n + 1 <= maxLen := by simp only [maxLen]; omega
 have k2 : (n + 1) * 32 <= 140737488355328 := by omega
 have hr : Reads w w.heap.size 2 (some ⟨gv, 0, none⟩) 1 [x1, x2] := ⟨rfl, fun _ => ⟨_, rfl, hv.lt, fun j u hu => by rw [Addr.add_lit, Nat.zero_add, hv.cell]; simpa using hu⟩⟩
 have a9 : ((n : Int) == (n : Int)) = true := by simp
 obtain ⟨Y, hY⟩ : ∃ Y, (if c = n then A else Option.map (fun x => x.add (n * 2)) A) = Y := ⟨_, rfl⟩
 have HO := zaa hown
 have HR := zaa hr
 have HV := zaa hv
 clear hown hr hv hi0 hz0 hz1 hz2
 go_enter Tryz.func124, Tryz.ntmps124
 go_wp2_with (at_builtin; refine zah _ rfl (.tmp 23) (.tmp 24) _ rfl base 68 i0 _ 2 32 Tryz.underlying39 HI0.out HZ0.out HZ1.out HZ2.out rfl (by omega) (.slice A n c) n xs rfl HO.out w.heap.size (some ⟨gv, 0, none⟩) 1 1 [x1, x2] rfl HR.out hn1 k1 k2 hbase ?_; intro v1 w1 hown1 hg1 hat1)
 go_ret
 exact ⟨v1, rfl, hown1, hg1, hat1.imp id fun h => ⟨_, h, Nat.le_refl _⟩⟩
theorem znh : ∀ w, (Go.sizeOf 68).run Tryz.prog w = .ok 2 w := by
 intro w
 kernel_rfl
theorem zqv (w : World) (gv g o lb cb : Nat) (x1 x2 : Value) (cur : List Value) (hv : Blk w gv 68 #[x1, x2]) (hb : Blk w g 68 cur.toArray) (hne : gv ≠ g) (hpos : cur.length ≠ 0) :
   (callFunc 166 #[.slice (some ⟨gv, 0, none⟩) 1 1, .slice (some ⟨g, o, none⟩) lb cb]).run Tryz.prog w = .ok (.value (.bool false)) w := by
 have hsa : w.shape? gv = some (68, 2) := by unfold Blk at hv; simp [World.shape?, hv]
 have hsb : w.shape? g = some (68, cur.length) := by unfold Blk at hb; simp [World.shape?, hb]
 rw [run_callFunc_extern Tryz.func166 (by kernel_rfl) (by kernel_rfl) (by kernel_rfl) (e := Extern.SlicesOverlaps.overlaps #[39, 39] #[4]) (by kernel_rfl),
  Lib.run_overlaps_apart w 39 4 68 Tryz.underlying39 2 znh ⟨gv, 0, none⟩ ⟨g, o, none⟩ 1 1 lb cb hne _ _ _ _ hsa hsb hpos (hv.frozen 0) (hv.frozen 2)]
 rfl
set_option maxHeartbeats 800000 in
theorem zh2 (g n c i gv : Nat) (cur : List Value) (x1 x2 : Value) (w : World) (hb : Blk w g 68 cur.toArray) (hlen : cur.length = c * 2) (hi : i < n) (hroom : n + 1 <= c) (hv : Blk w gv 68 #[x1, x2]) (hne : gv ≠ g) (hn : n <= 1000) (h1 : ∀ u ∈ cur.take (n * 2), u.oneCell' = true) (hn1 : ∀ u ∈ [x1, x2], u.oneCell' = true) (hc : c <= maxLen) :
   Calls Tryz.prog 124 #[.slice (some ⟨g, 0, none⟩) n c, .int .i64 i, .slice (some ⟨gv, 0, none⟩) 1 1] w fun e w' => ∃ cur' : List Value, e = .returned (.slice (some ⟨g, 0, none⟩) (n + 1) c) /\ Blk w' g 68 cur'.toArray /\ w.grownBy w' (some g) /\ w'.heap.size = w.heap.size /\ cur'.length = c * 2 /\
    cur'.take ((n + 1) * 2) = cur.take (i * 2) ++ [x1, x2] ++ (cur.take (n * 2)).drop (i * 2) := by
 obtain ⟨i0, hi0, hz0, hz1, hz2⟩ := info_parts zdc
 unfold maxLen at hc
 have hsz : (Tryz.prog.info? 68).map (·.size) = some 2 := by rw [hi0]; simp [hz1]
 obtain ⟨old, hold⟩ : ∃ l, l = (cur.take (n * 2)).drop (i * 2) := ⟨_, rfl⟩
 have hol : old.length = (n - i) * 2 := by rw [hold]; simp only [List.length_drop, List.length_take]; omega
 have ho1 : ∀ u ∈ old, u.oneCell' = true := fun u hu => h1 u (by rw [hold] at hu; exact List.mem_of_mem_drop hu)
 have hmin : Nat.min (n + 1 - i) (n - i) = n - i := by simp only [Nat.min_def]; split <;> omega
 have hmin2 : Nat.min 1 (n + 1 - i) = 1 := by simp only [Nat.min_def]; split <;> omega
 have s1 : old.length = Nat.min (n + 1 - i) (n - i) * 2 := by rw [hmin, hol]
 have s2 : [x1, x2].length = Nat.min 1 (n + 1 - i) * 2 := by rw [hmin2]; rfl
 have hsrc : ∀ j u, old[j]? = some u -> w.drew.cell? ((⟨g, i * 2, none⟩ : Addr).add j) = some u := by
  intro j u hu
  have hjl : j < old.length := (List.getElem?_eq_some_iff.1 hu).1
  rw [hold, List.getElem?_drop, List.getElem?_take, if_pos (by omega)] at hu
  rw [Addr.add_lit, World.cell?_drew, hb.cell]
  simpa using hu
 have f1 : (i + 1) * 2 + old.length <= cur.length := by omega
 have f2 : i * 2 + [x1, x2].length <= (spl cur ((i + 1) * 2) old).length := by rw [zav f1]; simp; omega
 have hend : (spl (spl cur ((i + 1) * 2) old) (i * 2) [x1, x2]).take ((n + 1) * 2) = cur.take (i * 2) ++ [x1, x2] ++ old := by
  have hcut : cur = cur.take (i * 2) ++ cur.drop (i * 2) := (List.take_append_drop _ _).symm
  have hli : (cur.take (i * 2)).length = i * 2 := by rw [List.length_take]; omega
  have h2 : spl cur ((i + 1) * 2) old = cur.take ((i + 1) * 2) ++ old ++ cur.drop ((i + 1) * 2 + old.length) := rfl
  have hl2 : (cur.take ((i + 1) * 2)).length = (i + 1) * 2 := by rw [List.length_take]; omega
  have e1 : (spl cur ((i + 1) * 2) old).take (i * 2) = cur.take (i * 2) := by
   rw [h2, List.append_assoc, List.take_append_of_le_length (by omega), List.take_take, Nat.min_eq_left (by omega)]
  have e2 : (spl cur ((i + 1) * 2) old).drop (i * 2 + 2) = old ++ cur.drop ((i + 1) * 2 + old.length) := by
   rw [h2, List.append_assoc, show i * 2 + 2 = (cur.take ((i + 1) * 2)).length by rw [hl2]; omega]
   exact List.drop_left
  show ((spl cur ((i + 1) * 2) old).take (i * 2) ++ [x1, x2] ++ (spl cur ((i + 1) * 2) old).drop (i * 2 + 2)).take ((n + 1) * 2) = _
  rw [e1, e2, <- List.append_assoc, show (n + 1) * 2 = (cur.take (i * 2) ++ [x1, x2] ++ old).length by simp only [List.length_append, hli, hol, List.length_cons, List.length_nil]; omega]
  exact List.take_left
 have hov := fun lb cb => zqv w gv g ((i + 1) * 2) lb cb x1 x2 cur hv hb hne (by omega)
 have a1 : IntKind.i64.wrap ((i : Int) + 1) = (i : Int) + 1 := by rw [IntKind.wrap_i64]; omega
 have a2 : (0 : Int) <= (i : Int) + 1 := by omega
 have a3 : i <= n := by omega
 have a4 : ((i : Int) + 1).toNat = i + 1 := by omega
 have a5 : ¬ c = i + 1 := by omega
 have a6 : (i : Int) + 1 <= (n : Int) + 1 := by omega
 have a7 : ¬ c = i := by omega
 have a8 : (i : Int) <= (n : Int) + 1 := by omega
 have a9 : ((i : Int) == (n : Int)) = false := by rw [beq_eq_false_iff_ne]; omega
 have a10 : ¬ c < n + 1 := by omega
 have a11 : IntKind.i64.wrap ((n : Int) + 1) = (n : Int) + 1 := by rw [IntKind.wrap_i64]; omega
 have a12 : (n : Int) + 1 <= (c : Int) := by omega
 have a13 : (0 : Int) <= (n : Int) + 1 := by omega
 have HB := zaa hb
 have HV := zaa hv
 have HL := zaa hlen
 have HO := zaa hold
 have S1 := zaa s1
 have S2 := zaa s2
 have HS := zaa hsrc
 have HO1 := zaa ho1
 have HN1 := zaa hn1
 have F1 := zaa f1
 have F2 := zaa f2
 have HE := zaa hend
 clear hb hv hlen hold s1 s2 hsrc ho1 hn1 f1 f2 hend hol hmin hmin2 h1 hz0 hz1 hz2 hi0
 go_enter Tryz.func124, Tryz.ntmps124
 go_wp2_with (simp only [hov])
 go_region_law (refine zdx _ rfl (.tmp 73) (.tmp 76) 39 39 rfl 68 2 Tryz.underlying39 hsz g ((i + 1) * 2) (n - i) (c - (i + 1)) ⟨g, i * 2, none⟩ (n + 1 - i) (c - i) (by simp [Act.eval, Act.put]) (by simp [Act.eval, Act.put]) cur 68 HB.out.drew old S1.out HS.out F1.out HO1.out ?_; intro w1 hb1 hg1 hs1)
 all_goals
  have hv1 : Blk w1 gv 68 #[x1, x2] := HV.out.drew.grown hg1 (by simp only [ne_eq, Option.some.injEq]; exact hne)
  have hs2 : ∀ j u, [x1, x2][j]? = some u -> w1.cell? ((⟨gv, 0, none⟩ : Addr).add j) = some u := fun j u hu => by rw [Addr.add_lit, Nat.zero_add, hv1.cell]; simpa using hu
  have HS2 := zaa hs2
  clear hs2 hv1
  go_wp2_with (refine zbv _ rfl (.tmp 80) (.tmp 81) 39 39 rfl 68 2 Tryz.underlying39 hsz g (i * 2) (n + 1 - i) (c - i) ⟨gv, 0, none⟩ 1 1 rfl rfl (spl cur ((i + 1) * 2) old) 68 hb1 [x1, x2] S2.out HS2.out F2.out HN1.out ?_; intro w2 hb2 hg2 hs2)
  go_ret
  refine ⟨_, rfl, hb2, ?_, ?_, ?_, ?_⟩
  . have hg := hg1.trans hg2
    exact ⟨hg.os, hg.tape, hg.output, hg.size, hg.block⟩
  . rw [hs2, hs1]; rfl
  . rw [zav F2.out, zav F1.out]; exact HL.out
  . rw [<- HO.out]; exact HE.out
theorem zlq (cur2 pre old : List Value) (x1 x2 : Value) (i m N : Nat) (h : cur2.take (i * 2) = pre) (hp : pre.length = i * 2) (ho : old.length = m * 2) (hN : N = i + 1 + m) (_hl : N * 2 <= cur2.length) :
   (spl (spl cur2 (i * 2) [x1, x2]) ((i + 1) * 2) old).take (N * 2) = pre ++ [x1, x2] ++ old := by
 have e1 : (spl cur2 (i * 2) [x1, x2]).take ((i + 1) * 2) = pre ++ [x1, x2] := by
  unfold spl
  rw [h, show (i + 1) * 2 = (pre ++ [x1, x2]).length by simp only [List.length_append, hp, List.length_cons, List.length_nil]; omega]
  exact List.take_left
 unfold spl at e1 ⊢
 rw [e1, show N * 2 = (pre ++ [x1, x2] ++ old).length by simp only [List.length_append, hp, ho, List.length_cons, List.length_nil]; omega]
 exact List.take_left
set_option maxHeartbeats 800000 in
theorem zik (g n c i gv : Nat) (cur : List Value) (x1 x2 : Value) (w : World) (hb : Blk w g 68 cur.toArray) (hlen : cur.length = c * 2) (hi : i < n) (hroom : c < n + 1) (hnc : n <= c) (hv : Blk w gv 68 #[x1, x2]) (hn : n <= 1000) (h1 : ∀ u ∈ cur.take (n * 2), u.oneCell' = true) (hn1 : ∀ u ∈ [x1, x2], u.oneCell' = true) :
   Calls Tryz.prog 124 #[.slice (some ⟨g, 0, none⟩) n c, .int .i64 i, .slice (some ⟨gv, 0, none⟩) 1 1] w fun e w' => ∃ (g' c' : Nat) (cur' : List Value), e = .returned (.slice (some ⟨g', 0, none⟩) (n + 1) c') /\ Blk w' g' 68 cur'.toArray /\ w.grownBy w' none /\ w.heap.size <= g' /\ cur'.length = c' * 2 /\ n + 1 <= c' /\ c' <= maxLen /\
    cur'.take ((n + 1) * 2) = cur.take (i * 2) ++ [x1, x2] ++ (cur.take (n * 2)).drop (i * 2) := by
 obtain ⟨i0, hi0, hz0, hz1, hz2⟩ := info_parts zdc
 have hsz : (Tryz.prog.info? 68).map (·.size) = some 2 := by rw [hi0]; simp [hz1]
 obtain ⟨old, hold⟩ : ∃ l, l = (cur.take (n * 2)).drop (i * 2) := ⟨_, rfl⟩
 have hol : old.length = (n - i) * 2 := by rw [hold]; simp only [List.length_drop, List.length_take]; omega
 have ho1 : ∀ u ∈ old, u.oneCell' = true := fun u hu => h1 u (by rw [hold] at hu; exact List.mem_of_mem_drop hu)
 obtain ⟨k, hk⟩ : ∃ k : Nat, n + 1 - i = k := ⟨_, rfl⟩
 have hk2 : 2 <= k := by omega
 have hik : i + k = n + 1 := by omega
 have hmin : Nat.min (n - i) (n - i) = n - i := Nat.min_self _
 have hmin2 : Nat.min 1 k = 1 := by simp only [Nat.min_def]; split <;> omega
 have s1 : old.length = Nat.min (n - i) (n - i) * 2 := by rw [hmin, hol]
 have s2 : [x1, x2].length = Nat.min 1 k * 2 := by rw [hmin2]; rfl
 have hpl : (cur.take (i * 2)).length = i * 2 := by rw [List.length_take]; omega
 have hold0 : 0 < i -> ∃ ad, (some (⟨g, 0, none⟩ : Addr)) = some ad /\ ∀ j u, (cur.take (i * 2))[j]? = some u -> w.cell? (ad.add j) = some u := fun _ => ⟨_, rfl, fun j u hu => by
  have hjl : j < (cur.take (i * 2)).length := (List.getElem?_eq_some_iff.1 hu).1
  rw [List.getElem?_take, if_pos (by omega)] at hu
  rw [Addr.add_lit, Nat.zero_add, hb.cell]
  simpa using hu⟩
 have hsrc : ∀ (W : World), Blk W g 68 cur.toArray -> ∀ j u, old[j]? = some u -> W.cell? ((⟨g, i * 2, none⟩ : Addr).add j) = some u := by
  intro W hW j u hu
  have hjl : j < old.length := (List.getElem?_eq_some_iff.1 hu).1
  rw [hold, List.getElem?_drop, List.getElem?_take, if_pos (by omega)] at hu
  rw [Addr.add_lit, hW.cell]
  simpa using hu
 have k1 : i + k <= maxLen := by simp only [maxLen]; omega
 have k2 : (i + k) * 32 <= 140737488355328 := by omega
 have k3 : c < i + k := by omega
 have a1 : IntKind.i64.wrap ((i : Int) + 1) = (i : Int) + 1 := by rw [IntKind.wrap_i64]; omega
 have a2 : (0 : Int) <= (i : Int) + 1 := by omega
 have a3 : i <= n := by omega
 have a4 : ((i : Int) + 1).toNat = i + 1 := by omega
 have a6 : (i : Int) + 1 <= (n : Int) + 1 := by omega
 have a7 : ¬ c = i := by omega
 have a8 : (i : Int) <= (n : Int) + 1 := by omega
 have a9 : ((i : Int) == (n : Int)) = false := by rw [beq_eq_false_iff_ne]; omega
 have a10 : (c : Int) < (n : Int) + 1 := by omega
 have a11 : IntKind.i64.wrap ((n : Int) + 1) = (n : Int) + 1 := by rw [IntKind.wrap_i64]; omega
 have a14 : IntKind.i64.wrap ((n : Int) + 1 - (i : Int)) = (k : Int) := by rw [IntKind.wrap_i64]; omega
 have a15 : (n : Int) + 1 - (i : Int) = (k : Int) := by omega
 have a16 : i <= c := by omega
 have a17 : (i : Int) <= (c : Int) := by omega
 have HI0 := zaa hi0
 have HZ0 := zaa hz0
 have HZ1 := zaa hz1
 have HZ2 := zaa hz2
 have HB := zaa hb
 have HV := zaa hv
 have HO := zaa hold
 have HO0 := zaa hold0
 have S1 := zaa s1
 have S2 := zaa s2
 have HS := zaa hsrc
 have HO1 := zaa ho1
 have HN1 := zaa hn1
 have HP := zaa hpl
 have HL := zaa hol
 have HC := zaa hlen
 clear hb hv hold s1 s2 hsrc ho1 hn1 hol hmin hmin2 h1 hz0 hz1 hz2 hi0 hpl hold0 hlen
 go_enter Tryz.func124, Tryz.ntmps124
 go_wp2_with (first
  | (refine zd5 _ rfl (.tmp 34) (.tmp 39) 39 3 rfl 68 i0 _ 2 32 .i64 Tryz.underlying39 Tryz.underlying3 HI0.out HZ0.out HZ1.out HZ2.out rfl (by omega) (some ⟨g, 0, none⟩) i c k rfl rfl (cur.take (i * 2)) HP.out HO0.out (by omega) k3 k1 k2 ?_
     intro w1 g2 c2 cur2 hb2 hg2 hgr2 hl2 hc2 hm2 ht2
     have hne2 : some gv ≠ (none : Option Nat) := by simp
     have hv1 : Blk w1 gv 68 #[x1, x2] := HV.out.grown hgr2 (by simp)
     have hB1 : Blk w1 g 68 cur.toArray := HB.out.grown hgr2 (by simp)
     have hg2g : g ≠ g2 := by have := HB.out.lt; omega
     have hg2v : gv ≠ g2 := by have := HV.out.lt; omega
     have hs2 : ∀ j u, [x1, x2][j]? = some u -> w1.cell? ((⟨gv, 0, none⟩ : Addr).add j) = some u := fun j u hu => by rw [Addr.add_lit, Nat.zero_add, hv1.cell]; simpa using hu
     have f1 : i * 2 + [x1, x2].length <= cur2.length := by simp only [List.length_cons, List.length_nil]; omega
     have f2 : (i + 1) * 2 + old.length <= (spl cur2 (i * 2) [x1, x2]).length := by rw [zav f1]; have := HL.out; omega
     have b1 : ¬ c2 = i := by omega
     have b2 : ¬ c2 = i + 1 := by omega
     have b3 : n + 1 <= c2 := by omega
     have hend := zlq cur2 (cur.take (i * 2)) old x1 x2 i (n - i) (n + 1) ht2 HP.out HL.out (by omega) (by omega)
     have HS2 := zaa hs2
     have F1 := zaa f1
     have F2 := zaa f2
     have HE := zaa hend
     have HL2 := zaa hl2
     have HB2 := zaa hb2
     have HB1 := zaa hB1
     have HG2 := zaa hg2
     clear hs2 hv1 f1 f2 hend hl2 ht2 hb2 hB1 hg2
     have hm3 : c2 <= 9223372036854775807 := by unfold maxLen at hm2; omega)
  | (refine zbv _ rfl (.tmp 43) (.tmp 44) 39 39 rfl 68 2 Tryz.underlying39 hsz g2 (i * 2) k (c2 - i) ⟨gv, 0, none⟩ 1 1 rfl rfl cur2 68 HB2.out [x1, x2] S2.out HS2.out F1.out HN1.out ?_; intro w3 hb3 hg3 hs3))
 have hB3 : Blk w3 g 68 cur.toArray := HB1.out.grown hg3 (by simp only [ne_eq, Option.some.injEq]; exact hg2g)
 have HS3 := zaa (HS.out w3 hB3)
 clear hB3
 go_region_law (refine zdx _ rfl (.tmp 50) (.tmp 53) 39 39 rfl 68 2 Tryz.underlying39 hsz g2 ((i + 1) * 2) (n - i) (c2 - (i + 1)) ⟨g, i * 2, none⟩ (n - i) (c - i) (by simp [Act.eval, Act.put]) (by simp [Act.eval, Act.put]) (spl cur2 (i * 2) [x1, x2]) 68 hb3.drew old S1.out HS3.out F2.out HO1.out ?_; intro w4 hb4 hg4 hs4)
 all_goals
  go_wp2
  go_ret
  refine ⟨g2, c2, _, rfl, hb4, ?_, HG2.out, ?_, b3, hm2, ?_⟩
  . have hg := hg3.trans (show w3.grownBy w4 (some g2) from ⟨hg4.os, hg4.tape, hg4.output, hg4.size, hg4.block⟩)
    have hlt := HG2.out
    exact ⟨hg.os.trans hgr2.os, hg.tape.trans hgr2.tape, hg.output.trans hgr2.output, Nat.le_trans hgr2.size hg.size, fun q hq _ => (hg.block q (Nat.lt_of_lt_of_le hq hgr2.size) (by simp only [ne_eq, Option.some.injEq]; omega)).trans (hgr2.block q hq (by simp))⟩
  . rw [zav F2.out, zav F1.out]; exact HL2.out
  . rw [<- HO.out]; exact HE.out
theorem zni (base n i gv : Nat) (A : Option Addr) (c : Nat) (xs : List Value) (x1 x2 : Value) (w : World) (hown : w.ownsRow base 68 2 (.slice A n c) n xs) (hv : Blk w gv 68 #[x1, x2]) (hne : Value.ownBlock (.slice A n c) ≠ some gv) (hi : i <= n) (hn : n <= 1000) (h1 : ∀ u ∈ xs, u.oneCell' = true) (hn1 : ∀ u ∈ [x1, x2], u.oneCell' = true) (hbase : base <= w.heap.size) (hc : c <= maxLen) :
   Calls Tryz.prog 124 #[.slice A n c, .int .i64 i, .slice (some ⟨gv, 0, none⟩) 1 1] w fun e w' => ∃ v', e = .returned v' /\ w'.ownsRow base 68 2 v' (n + 1) (xs.take (i * 2) ++ [x1, x2] ++ xs.drop (i * 2)) /\ w.grownBy w' (Value.ownBlock (.slice A n c)) /\ (v'.ownBlock = Value.ownBlock (.slice A n c) \/ ∃ g', v'.ownBlock = some g' /\ w.heap.size <= g') := by
 by_cases hin : i = n
 . subst hin
   refine (zi5 base i gv A c xs x1 x2 w hown hv hn hn1 hbase hc).mono ?_
   rintro e w' ⟨v', he, ho, hg, hat⟩
   have hl := hown.1
   refine ⟨v', he, ?_, hg, hat⟩
   rw [List.take_of_length_le (by omega), List.drop_of_length_le (by omega), List.append_nil]
   exact ho
 . have hown' := hown
   obtain ⟨hl, hd⟩ := hown'
   rcases hd with ⟨_, h0⟩ | ⟨g, cap, cur, hve, hbg, hg, hnc, hcm, hcs, hx⟩
   . omega
   . obtain ⟨L⟩ := cur
     injection hve with hA _ hcap
     subst hA
     subst hcap
     have hx' : L.take (n * 2) = xs := hx
     have hcs' : L.length = c * 2 := hcs
     have hne' : gv ≠ g := fun e => hne (by rw [e]; rfl)
     by_cases hroom : n + 1 <= c
     . refine (zh2 g n c i gv L x1 x2 w hg hcs' (by omega) hroom hv hne' hn (by rw [hx']; exact h1) hn1 hc).mono ?_
       rintro e w' ⟨cur', he, hb', hgr, _, hlen, htk⟩
       refine ⟨_, he, ⟨?_, .inr ⟨g, c, cur'.toArray, rfl, hbg, hb', hroom, hcm, by simpa using hlen, ?_⟩⟩, hgr, .inl rfl⟩
       . simp only [List.length_append, List.length_take, List.length_drop, List.length_cons, List.length_nil]; omega
       . rw [hx'] at htk
         have h2 : L.take (i * 2) = xs.take (i * 2) := by rw [<- hx', List.take_take, Nat.min_eq_left (by omega)]
         rw [h2] at htk
         simpa using htk
     . refine (zik g n c i gv L x1 x2 w hg hcs' (by omega) (by omega) hnc hv hn (by rw [hx']; exact h1) hn1).mono ?_
       rintro e w' ⟨g', c', cur', he, hb', hgr, hge, hlen, hnc', hcm', htk⟩
       refine ⟨_, he, ⟨?_, .inr ⟨g', c', cur'.toArray, rfl, by omega, hb', hnc', hcm', by simpa using hlen, ?_⟩⟩, ⟨hgr.os, hgr.tape, hgr.output, hgr.size, fun q hq _ => hgr.block q hq (by simp)⟩, .inr ⟨g', rfl, hge⟩⟩
       . simp only [List.length_append, List.length_take, List.length_drop, List.length_cons, List.length_nil]; omega
       . rw [hx'] at htk
         have h2 : L.take (i * 2) = xs.take (i * 2) := by rw [<- hx', List.take_take, Nat.min_eq_left (by omega)]
         rw [h2] at htk
         simpa using htk
set_option maxHeartbeats 400000 in
theorem zjz (base n gv : Nat) (A : Option Addr) (c : Nat) (xs : List Value) (x1 x2 : Value) (w : World) (hown : w.ownsRow base 139 2 (.slice A n c) n xs) (hv : Blk w gv 139 #[x1, x2]) (hn : n <= 1000) (hn1 : ∀ u ∈ [x1, x2], u.oneCell' = true) (hbase : base <= w.heap.size) (_hc : c <= maxLen) :
   Calls Tryz.prog 164 #[.slice A n c, .int .i64 n, .slice (some ⟨gv, 0, none⟩) 1 1] w fun e w' => ∃ v', e = .returned v' /\ w'.ownsRow base 139 2 v' (n + 1) (xs ++ [x1, x2]) /\ w.grownBy w' (Value.ownBlock (.slice A n c)) /\ (v'.ownBlock = Value.ownBlock (.slice A n c) \/ ∃ g', v'.ownBlock = some g' /\ w.heap.size <= g') := by
 obtain ⟨i0, hi0, hz0, hz1, hz2⟩ := info_parts zec
 unfold maxLen at _hc
 have HI0 := zaa hi0
 have HZ0 := zaa hz0
 have HZ1 := zaa hz1
 have HZ2 := zaa hz2
 have k1 : n + 1 <= maxLen := by simp only [maxLen]; omega
 have k2 : (n + 1) * 24 <= 140737488355328 := by omega
 have hr : Reads w w.heap.size 2 (some ⟨gv, 0, none⟩) 1 [x1, x2] := ⟨rfl, fun _ => ⟨_, rfl, hv.lt, fun j u hu => by rw [Addr.add_lit, Nat.zero_add, hv.cell]; simpa using hu⟩⟩
 have a9 : ((n : Int) == (n : Int)) = true := by simp
 obtain ⟨Y, hY⟩ : ∃ Y, (if c = n then A else Option.map (fun x => x.add (n * 2)) A) = Y := ⟨_, rfl⟩
 have HO := zaa hown
 have HR := zaa hr
 have HV := zaa hv
 clear hown hr hv hi0 hz0 hz1 hz2
 go_enter Tryz.func164, Tryz.ntmps164
 go_wp2_with (at_builtin; refine zah _ rfl (.tmp 23) (.tmp 24) _ rfl base 139 i0 _ 2 24 Tryz.underlying135 HI0.out HZ0.out HZ1.out HZ2.out rfl (by omega) (.slice A n c) n xs rfl HO.out w.heap.size (some ⟨gv, 0, none⟩) 1 1 [x1, x2] rfl HR.out hn1 k1 k2 hbase ?_; intro v1 w1 hown1 hg1 hat1)
 go_ret
 exact ⟨v1, rfl, hown1, hg1, hat1.imp id fun h => ⟨_, h, Nat.le_refl _⟩⟩
theorem zo4 : ∀ w, (Go.sizeOf 139).run Tryz.prog w = .ok 2 w := by
 intro w
 kernel_rfl
theorem zsj (w : World) (gv g o lb cb : Nat) (x1 x2 : Value) (cur : List Value) (hv : Blk w gv 139 #[x1, x2]) (hb : Blk w g 139 cur.toArray) (hne : gv ≠ g) (hpos : cur.length ≠ 0) :
   (callFunc 190 #[.slice (some ⟨gv, 0, none⟩) 1 1, .slice (some ⟨g, o, none⟩) lb cb]).run Tryz.prog w = .ok (.value (.bool false)) w := by
 have hsa : w.shape? gv = some (139, 2) := by unfold Blk at hv; simp [World.shape?, hv]
 have hsb : w.shape? g = some (139, cur.length) := by unfold Blk at hb; simp [World.shape?, hb]
 rw [run_callFunc_extern Tryz.func190 (by kernel_rfl) (by kernel_rfl) (by kernel_rfl) (e := Extern.SlicesOverlaps.overlaps #[135, 135] #[4]) (by kernel_rfl),
  Lib.run_overlaps_apart w 135 4 139 Tryz.underlying135 2 zo4 ⟨gv, 0, none⟩ ⟨g, o, none⟩ 1 1 lb cb hne _ _ _ _ hsa hsb hpos (hv.frozen 0) (hv.frozen 2)]
 rfl
set_option maxHeartbeats 800000 in
theorem zil (g n c i gv : Nat) (cur : List Value) (x1 x2 : Value) (w : World) (hb : Blk w g 139 cur.toArray) (hlen : cur.length = c * 2) (hi : i < n) (hroom : n + 1 <= c) (hv : Blk w gv 139 #[x1, x2]) (hne : gv ≠ g) (hn : n <= 1000) (h1 : ∀ u ∈ cur.take (n * 2), u.oneCell' = true) (hn1 : ∀ u ∈ [x1, x2], u.oneCell' = true) (hc : c <= maxLen) :
   Calls Tryz.prog 164 #[.slice (some ⟨g, 0, none⟩) n c, .int .i64 i, .slice (some ⟨gv, 0, none⟩) 1 1] w fun e w' => ∃ cur' : List Value, e = .returned (.slice (some ⟨g, 0, none⟩) (n + 1) c) /\ Blk w' g 139 cur'.toArray /\ w.grownBy w' (some g) /\ w'.heap.size = w.heap.size /\ cur'.length = c * 2 /\
    cur'.take ((n + 1) * 2) = cur.take (i * 2) ++ [x1, x2] ++ (cur.take (n * 2)).drop (i * 2) := by
 obtain ⟨i0, hi0, hz0, hz1, hz2⟩ := info_parts zec
 unfold maxLen at hc
 have hsz : (Tryz.prog.info? 139).map (·.size) = some 2 := by rw [hi0]; simp [hz1]
 obtain ⟨old, hold⟩ : ∃ l, l = (cur.take (n * 2)).drop (i * 2) := ⟨_, rfl⟩
 have hol : old.length = (n - i) * 2 := by rw [hold]; simp only [List.length_drop, List.length_take]; omega
 have ho1 : ∀ u ∈ old, u.oneCell' = true := fun u hu => h1 u (by rw [hold] at hu; exact List.mem_of_mem_drop hu)
 have hmin : Nat.min (n + 1 - i) (n - i) = n - i := by simp only [Nat.min_def]; split <;> omega
 have hmin2 : Nat.min 1 (n + 1 - i) = 1 := by simp only [Nat.min_def]; split <;> omega
 have s1 : old.length = Nat.min (n + 1 - i) (n - i) * 2 := by rw [hmin, hol]
 have s2 : [x1, x2].length = Nat.min 1 (n + 1 - i) * 2 := by rw [hmin2]; rfl
 have hsrc : ∀ j u, old[j]? = some u -> w.drew.cell? ((⟨g, i * 2, none⟩ : Addr).add j) = some u := by
  intro j u hu
  have hjl : j < old.length := (List.getElem?_eq_some_iff.1 hu).1
  rw [hold, List.getElem?_drop, List.getElem?_take, if_pos (by omega)] at hu
  rw [Addr.add_lit, World.cell?_drew, hb.cell]
  simpa using hu
 have f1 : (i + 1) * 2 + old.length <= cur.length := by omega
 have f2 : i * 2 + [x1, x2].length <= (spl cur ((i + 1) * 2) old).length := by rw [zav f1]; simp; omega
 have hend : (spl (spl cur ((i + 1) * 2) old) (i * 2) [x1, x2]).take ((n + 1) * 2) = cur.take (i * 2) ++ [x1, x2] ++ old := by
  have hcut : cur = cur.take (i * 2) ++ cur.drop (i * 2) := (List.take_append_drop _ _).symm
  have hli : (cur.take (i * 2)).length = i * 2 := by rw [List.length_take]; omega
  have h2 : spl cur ((i + 1) * 2) old = cur.take ((i + 1) * 2) ++ old ++ cur.drop ((i + 1) * 2 + old.length) := rfl
  have hl2 : (cur.take ((i + 1) * 2)).length = (i + 1) * 2 := by rw [List.length_take]; omega
  have e1 : (spl cur ((i + 1) * 2) old).take (i * 2) = cur.take (i * 2) := by
   rw [h2, List.append_assoc, List.take_append_of_le_length (by omega), List.take_take, Nat.min_eq_left (by omega)]
  have e2 : (spl cur ((i + 1) * 2) old).drop (i * 2 + 2) = old ++ cur.drop ((i + 1) * 2 + old.length) := by
   rw [h2, List.append_assoc, show i * 2 + 2 = (cur.take ((i + 1) * 2)).length by rw [hl2]; omega]
   exact List.drop_left
  show ((spl cur ((i + 1) * 2) old).take (i * 2) ++ [x1, x2] ++ (spl cur ((i + 1) * 2) old).drop (i * 2 + 2)).take ((n + 1) * 2) = _
  rw [e1, e2, <- List.append_assoc, show (n + 1) * 2 = (cur.take (i * 2) ++ [x1, x2] ++ old).length by simp only [List.length_append, hli, hol, List.length_cons, List.length_nil]; omega]
  exact List.take_left
 have hov := fun lb cb => zsj w gv g ((i + 1) * 2) lb cb x1 x2 cur hv hb hne (by omega)
 have a1 : IntKind.i64.wrap ((i : Int) + 1) = (i : Int) + 1 := by rw [IntKind.wrap_i64]; omega
 have a2 : (0 : Int) <= (i : Int) + 1 := by omega
 have a3 : i <= n := by omega
 have a4 : ((i : Int) + 1).toNat = i + 1 := by omega
 have a5 : ¬ c = i + 1 := by omega
 have a6 : (i : Int) + 1 <= (n : Int) + 1 := by omega
 have a7 : ¬ c = i := by omega
 have a8 : (i : Int) <= (n : Int) + 1 := by omega
 have a9 : ((i : Int) == (n : Int)) = false := by rw [beq_eq_false_iff_ne]; omega
 have a10 : ¬ c < n + 1 := by omega
 have a11 : IntKind.i64.wrap ((n : Int) + 1) = (n : Int) + 1 := by rw [IntKind.wrap_i64]; omega
 have a12 : (n : Int) + 1 <= (c : Int) := by omega
 have a13 : (0 : Int) <= (n : Int) + 1 := by omega
 have HB := zaa hb
 have HV := zaa hv
 have HL := zaa hlen
 have HO := zaa hold
 have S1 := zaa s1
 have S2 := zaa s2
 have HS := zaa hsrc
 have HO1 := zaa ho1
 have HN1 := zaa hn1
 have F1 := zaa f1
 have F2 := zaa f2
 have HE := zaa hend
 clear hb hv hlen hold s1 s2 hsrc ho1 hn1 f1 f2 hend hol hmin hmin2 h1 hz0 hz1 hz2 hi0
 go_enter Tryz.func164, Tryz.ntmps164
 go_wp2_with (simp only [hov])
 go_region_law (refine zdx _ rfl (.tmp 73) (.tmp 76) 135 135 rfl 139 2 Tryz.underlying135 hsz g ((i + 1) * 2) (n - i) (c - (i + 1)) ⟨g, i * 2, none⟩ (n + 1 - i) (c - i) (by simp [Act.eval, Act.put]) (by simp [Act.eval, Act.put]) cur 139 HB.out.drew old S1.out HS.out F1.out HO1.out ?_; intro w1 hb1 hg1 hs1)
 all_goals
  have hv1 : Blk w1 gv 139 #[x1, x2] := HV.out.drew.grown hg1 (by simp only [ne_eq, Option.some.injEq]; exact hne)
  have hs2 : ∀ j u, [x1, x2][j]? = some u -> w1.cell? ((⟨gv, 0, none⟩ : Addr).add j) = some u := fun j u hu => by rw [Addr.add_lit, Nat.zero_add, hv1.cell]; simpa using hu
  have HS2 := zaa hs2
  clear hs2 hv1
  go_wp2_with (refine zbv _ rfl (.tmp 80) (.tmp 81) 135 135 rfl 139 2 Tryz.underlying135 hsz g (i * 2) (n + 1 - i) (c - i) ⟨gv, 0, none⟩ 1 1 rfl rfl (spl cur ((i + 1) * 2) old) 139 hb1 [x1, x2] S2.out HS2.out F2.out HN1.out ?_; intro w2 hb2 hg2 hs2)
  go_ret
  refine ⟨_, rfl, hb2, ?_, ?_, ?_, ?_⟩
  . have hg := hg1.trans hg2
    exact ⟨hg.os, hg.tape, hg.output, hg.size, hg.block⟩
  . rw [hs2, hs1]; rfl
  . rw [zav F2.out, zav F1.out]; exact HL.out
  . rw [<- HO.out]; exact HE.out
set_option maxHeartbeats 800000 in
theorem zi6 (g n c i gv : Nat) (cur : List Value) (x1 x2 : Value) (w : World) (hb : Blk w g 139 cur.toArray) (hlen : cur.length = c * 2) (hi : i < n) (hroom : c < n + 1) (hnc : n <= c) (hv : Blk w gv 139 #[x1, x2]) (hn : n <= 1000) (h1 : ∀ u ∈ cur.take (n * 2), u.oneCell' = true) (hn1 : ∀ u ∈ [x1, x2], u.oneCell' = true) :
   Calls Tryz.prog 164 #[.slice (some ⟨g, 0, none⟩) n c, .int .i64 i, .slice (some ⟨gv, 0, none⟩) 1 1] w fun e w' => ∃ (g' c' : Nat) (cur' : List Value), e = .returned (.slice (some ⟨g', 0, none⟩) (n + 1) c') /\ Blk w' g' 139 cur'.toArray /\ w.grownBy w' none /\ w.heap.size <= g' /\ cur'.length = c' * 2 /\ n + 1 <= c' /\ c' <= maxLen /\
    cur'.take ((n + 1) * 2) = cur.take (i * 2) ++ [x1, x2] ++ (cur.take (n * 2)).drop (i * 2) := by
 obtain ⟨i0, hi0, hz0, hz1, hz2⟩ := info_parts zec
 have hsz : (Tryz.prog.info? 139).map (·.size) = some 2 := by rw [hi0]; simp [hz1]
 obtain ⟨old, hold⟩ : ∃ l, l = (cur.take (n * 2)).drop (i * 2) := ⟨_, rfl⟩
 have hol : old.length = (n - i) * 2 := by rw [hold]; simp only [List.length_drop, List.length_take]; omega
 have ho1 : ∀ u ∈ old, u.oneCell' = true := fun u hu => h1 u (by rw [hold] at hu; exact List.mem_of_mem_drop hu)
 obtain ⟨k, hk⟩ : ∃ k : Nat, n + 1 - i = k := ⟨_, rfl⟩
 have hk2 : 2 <= k := by omega
 have hik : i + k = n + 1 := by omega
 have hmin : Nat.min (n - i) (n - i) = n - i := Nat.min_self _
 have hmin2 : Nat.min 1 k = 1 := by simp only [Nat.min_def]; split <;> omega
 have s1 : old.length = Nat.min (n - i) (n - i) * 2 := by rw [hmin, hol]
 have s2 : [x1, x2].length = Nat.min 1 k * 2 := by rw [hmin2]; rfl
 have hpl : (cur.take (i * 2)).length = i * 2 := by rw [List.length_take]; omega
 have hold0 : 0 < i -> ∃ ad, (some (⟨g, 0, none⟩ : Addr)) = some ad /\ ∀ j u, (cur.take (i * 2))[j]? = some u -> w.cell? (ad.add j) = some u := fun _ => ⟨_, rfl, fun j u hu => by
  have hjl : j < (cur.take (i * 2)).length := (List.getElem?_eq_some_iff.1 hu).1
  rw [List.getElem?_take, if_pos (by omega)] at hu
  rw [Addr.add_lit, Nat.zero_add, hb.cell]
  simpa using hu⟩
 have hsrc : ∀ (W : World), Blk W g 139 cur.toArray -> ∀ j u, old[j]? = some u -> W.cell? ((⟨g, i * 2, none⟩ : Addr).add j) = some u := by
  intro W hW j u hu
  have hjl : j < old.length := (List.getElem?_eq_some_iff.1 hu).1
  rw [hold, List.getElem?_drop, List.getElem?_take, if_pos (by omega)] at hu
  rw [Addr.add_lit, hW.cell]
  simpa using hu
 have k1 : i + k <= maxLen := by simp only [maxLen]; omega
 have k2 : (i + k) * 24 <= 140737488355328 := by omega
 have k3 : c < i + k := by omega
 have a1 : IntKind.i64.wrap ((i : Int) + 1) = (i : Int) + 1 := by rw [IntKind.wrap_i64]; omega
 have a2 : (0 : Int) <= (i : Int) + 1 := by omega
 have a3 : i <= n := by omega
 have a4 : ((i : Int) + 1).toNat = i + 1 := by omega
 have a6 : (i : Int) + 1 <= (n : Int) + 1 := by omega
 have a7 : ¬ c = i := by omega
 have a8 : (i : Int) <= (n : Int) + 1 := by omega
 have a9 : ((i : Int) == (n : Int)) = false := by rw [beq_eq_false_iff_ne]; omega
 have a10 : (c : Int) < (n : Int) + 1 := by omega
 have a11 : IntKind.i64.wrap ((n : Int) + 1) = (n : Int) + 1 := by rw [IntKind.wrap_i64]; omega
 have a14 : IntKind.i64.wrap ((n : Int) + 1 - (i : Int)) = (k : Int) := by rw [IntKind.wrap_i64]; omega
 have a15 : (n : Int) + 1 - (i : Int) = (k : Int) := by omega
 have a16 : i <= c := by omega
 have a17 : (i : Int) <= (c : Int) := by omega
 have HI0 := zaa hi0
 have HZ0 := zaa hz0
 have HZ1 := zaa hz1
 have HZ2 := zaa hz2
 have HB := zaa hb
 have HV := zaa hv
 have HO := zaa hold
 have HO0 := zaa hold0
 have S1 := zaa s1
 have S2 := zaa s2
 have HS := zaa hsrc
 have HO1 := zaa ho1
 have HN1 := zaa hn1
 have HP := zaa hpl
 have HL := zaa hol
 have HC := zaa hlen
 clear hb hv hold s1 s2 hsrc ho1 hn1 hol hmin hmin2 h1 hz0 hz1 hz2 hi0 hpl hold0 hlen
 go_enter Tryz.func164, Tryz.ntmps164
 go_wp2_with (first
  | (refine zd5 _ rfl (.tmp 34) (.tmp 39) 135 3 rfl 139 i0 _ 2 24 .i64 Tryz.underlying135 Tryz.underlying3 HI0.out HZ0.out HZ1.out HZ2.out rfl (by omega) (some ⟨g, 0, none⟩) i c k rfl rfl (cur.take (i * 2)) HP.out HO0.out (by omega) k3 k1 k2 ?_
     intro w1 g2 c2 cur2 hb2 hg2 hgr2 hl2 hc2 hm2 ht2
     have hne2 : some gv ≠ (none : Option Nat) := by simp
     have hv1 : Blk w1 gv 139 #[x1, x2] := HV.out.grown hgr2 (by simp)
     have hB1 : Blk w1 g 139 cur.toArray := HB.out.grown hgr2 (by simp)
     have hg2g : g ≠ g2 := by have := HB.out.lt; omega
     have hg2v : gv ≠ g2 := by have := HV.out.lt; omega
     have hs2 : ∀ j u, [x1, x2][j]? = some u -> w1.cell? ((⟨gv, 0, none⟩ : Addr).add j) = some u := fun j u hu => by rw [Addr.add_lit, Nat.zero_add, hv1.cell]; simpa using hu
     have f1 : i * 2 + [x1, x2].length <= cur2.length := by simp only [List.length_cons, List.length_nil]; omega
     have f2 : (i + 1) * 2 + old.length <= (spl cur2 (i * 2) [x1, x2]).length := by rw [zav f1]; have := HL.out; omega
     have b1 : ¬ c2 = i := by omega
     have b2 : ¬ c2 = i + 1 := by omega
     have b3 : n + 1 <= c2 := by omega
     have hend := zlq cur2 (cur.take (i * 2)) old x1 x2 i (n - i) (n + 1) ht2 HP.out HL.out (by omega) (by omega)
     have HS2 := zaa hs2
     have F1 := zaa f1
     have F2 := zaa f2
     have HE := zaa hend
     have HL2 := zaa hl2
     have HB2 := zaa hb2
     have HB1 := zaa hB1
     have HG2 := zaa hg2
     clear hs2 hv1 f1 f2 hend hl2 ht2 hb2 hB1 hg2
     have hm3 : c2 <= 9223372036854775807 := by unfold maxLen at hm2; omega)
  | (refine zbv _ rfl (.tmp 43) (.tmp 44) 135 135 rfl 139 2 Tryz.underlying135 hsz g2 (i * 2) k (c2 - i) ⟨gv, 0, none⟩ 1 1 rfl rfl cur2 139 HB2.out [x1, x2] S2.out HS2.out F1.out HN1.out ?_; intro w3 hb3 hg3 hs3))
 have hB3 : Blk w3 g 139 cur.toArray := HB1.out.grown hg3 (by simp only [ne_eq, Option.some.injEq]; exact hg2g)
 have HS3 := zaa (HS.out w3 hB3)
 clear hB3
 go_region_law (refine zdx _ rfl (.tmp 50) (.tmp 53) 135 135 rfl 139 2 Tryz.underlying135 hsz g2 ((i + 1) * 2) (n - i) (c2 - (i + 1)) ⟨g, i * 2, none⟩ (n - i) (c - i) (by simp [Act.eval, Act.put]) (by simp [Act.eval, Act.put]) (spl cur2 (i * 2) [x1, x2]) 139 hb3.drew old S1.out HS3.out F2.out HO1.out ?_; intro w4 hb4 hg4 hs4)
 all_goals
  go_wp2
  go_ret
  refine ⟨g2, c2, _, rfl, hb4, ?_, HG2.out, ?_, b3, hm2, ?_⟩
  . have hg := hg3.trans (show w3.grownBy w4 (some g2) from ⟨hg4.os, hg4.tape, hg4.output, hg4.size, hg4.block⟩)
    have hlt := HG2.out
    exact ⟨hg.os.trans hgr2.os, hg.tape.trans hgr2.tape, hg.output.trans hgr2.output, Nat.le_trans hgr2.size hg.size, fun q hq _ => (hg.block q (Nat.lt_of_lt_of_le hq hgr2.size) (by simp only [ne_eq, Option.some.injEq]; omega)).trans (hgr2.block q hq (by simp))⟩
  . rw [zav F2.out, zav F1.out]; exact HL2.out
  . rw [<- HO.out]; exact HE.out
theorem zo5 (base n i gv : Nat) (A : Option Addr) (c : Nat) (xs : List Value) (x1 x2 : Value) (w : World) (hown : w.ownsRow base 139 2 (.slice A n c) n xs) (hv : Blk w gv 139 #[x1, x2]) (hne : Value.ownBlock (.slice A n c) ≠ some gv) (hi : i <= n) (hn : n <= 1000) (h1 : ∀ u ∈ xs, u.oneCell' = true) (hn1 : ∀ u ∈ [x1, x2], u.oneCell' = true) (hbase : base <= w.heap.size) (hc : c <= maxLen) :
   Calls Tryz.prog 164 #[.slice A n c, .int .i64 i, .slice (some ⟨gv, 0, none⟩) 1 1] w fun e w' => ∃ v', e = .returned v' /\ w'.ownsRow base 139 2 v' (n + 1) (xs.take (i * 2) ++ [x1, x2] ++ xs.drop (i * 2)) /\ w.grownBy w' (Value.ownBlock (.slice A n c)) /\ (v'.ownBlock = Value.ownBlock (.slice A n c) \/ ∃ g', v'.ownBlock = some g' /\ w.heap.size <= g') := by
 by_cases hin : i = n
 . subst hin
   refine (zjz base i gv A c xs x1 x2 w hown hv hn hn1 hbase hc).mono ?_
   rintro e w' ⟨v', he, ho, hg, hat⟩
   have hl := hown.1
   refine ⟨v', he, ?_, hg, hat⟩
   rw [List.take_of_length_le (by omega), List.drop_of_length_le (by omega), List.append_nil]
   exact ho
 . have hown' := hown
   obtain ⟨hl, hd⟩ := hown'
   rcases hd with ⟨_, h0⟩ | ⟨g, cap, cur, hve, hbg, hg, hnc, hcm, hcs, hx⟩
   . omega
   . obtain ⟨L⟩ := cur
     injection hve with hA _ hcap
     subst hA
     subst hcap
     have hx' : L.take (n * 2) = xs := hx
     have hcs' : L.length = c * 2 := hcs
     have hne' : gv ≠ g := fun e => hne (by rw [e]; rfl)
     by_cases hroom : n + 1 <= c
     . refine (zil g n c i gv L x1 x2 w hg hcs' (by omega) hroom hv hne' hn (by rw [hx']; exact h1) hn1 hc).mono ?_
       rintro e w' ⟨cur', he, hb', hgr, _, hlen, htk⟩
       refine ⟨_, he, ⟨?_, .inr ⟨g, c, cur'.toArray, rfl, hbg, hb', hroom, hcm, by simpa using hlen, ?_⟩⟩, hgr, .inl rfl⟩
       . simp only [List.length_append, List.length_take, List.length_drop, List.length_cons, List.length_nil]; omega
       . rw [hx'] at htk
         have h2 : L.take (i * 2) = xs.take (i * 2) := by rw [<- hx', List.take_take, Nat.min_eq_left (by omega)]
         rw [h2] at htk
         simpa using htk
     . refine (zi6 g n c i gv L x1 x2 w hg hcs' (by omega) (by omega) hnc hv hn (by rw [hx']; exact h1) hn1).mono ?_
       rintro e w' ⟨g', c', cur', he, hb', hgr, hge, hlen, hnc', hcm', htk⟩
       refine ⟨_, he, ⟨?_, .inr ⟨g', c', cur'.toArray, rfl, by omega, hb', hnc', hcm', by simpa using hlen, ?_⟩⟩, ⟨hgr.os, hgr.tape, hgr.output, hgr.size, fun q hq _ => hgr.block q hq (by simp)⟩, .inr ⟨g', rfl, hge⟩⟩
       . simp only [List.length_append, List.length_take, List.length_drop, List.length_cons, List.length_nil]; omega
       . rw [hx'] at htk
         have h2 : L.take (i * 2) = xs.take (i * 2) := by rw [<- hx', List.take_take, Nat.min_eq_left (by omega)]
         rw [h2] at htk
         simpa using htk
end Go.Proofs.YtemondlgcmpbbaaGreatDoor
