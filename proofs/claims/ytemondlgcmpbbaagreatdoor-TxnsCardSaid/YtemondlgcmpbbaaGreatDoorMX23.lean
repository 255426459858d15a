/- Rg Rh Ro Td Tp: merged. -/
import Derived.Test.YtemondlgcmpbbaaGreatDoorMX08
import Derived.Test.YtemondlgcmpbbaaGreatDoorMX22
import Derived.Test.YtemondlgcmpbbaaGreatDoorMX21
import Derived.Deep.QuietTactic
namespace Go.Proofs.YtemondlgcmpbbaaGreatDoor
open Go.RowKit
set_option maxRecDepth 100000
theorem ze3 : (Tryz.prog.info? 303).map (fun i => (i.zero, i.size, i.bytes)) = some (some (.agg #[.string ByteArray.empty, .string ByteArray.empty]), 2, 32) := by kernel_rfl
def RRow (w : World) (v : Value) (l : List (Str × Str)) : Prop := ∃ base, w.ownsRow base 303 2 v l.length (zaf l)
theorem zks : ∀ (l : List (Str × Str)) (k : Nat) (x : Str × Str), l[k]? = some x -> (zaf l)[k * 2]? = some (.string x.1) /\ (zaf l)[k * 2 + 1]? = some (.string x.2)
 | a :: l, 0, x, h => by cases h; exact ⟨rfl, rfl⟩
 | a :: l, k + 1, x, h => by
   have := zks l k x (by simpa using h)
   have e : zaf (a :: l) = Value.string a.1 :: Value.string a.2 :: zaf l := rfl
   rw [e, show (k + 1) * 2 = k * 2 + 1 + 1 by omega]
   exact this
theorem RRow.nil (w : World) : RRow w (.slice none 0 0) [] := ⟨0, World.ownsRow_nil _ _ _ _⟩
theorem RRow.form {w : World} {v : Value} {l : List (Str × Str)} (h : RRow w v l) : ∃ A c, v = .slice A l.length c := by
 obtain ⟨base, h⟩ := h
 obtain ⟨A, c, e, _⟩ := zad h
 exact ⟨A, c, e⟩
theorem RRow.below {w w' : World} {v : Value} {l : List (Str × Str)} (h : RRow w v l) (hb : Below w.heap.size w w') : RRow w' v l := by
 obtain ⟨base, h⟩ := h
 exact ⟨base, zap h hb⟩
theorem RRow.only {fp : Nat -> Prop} {w w' : World} {v : Value} {l : List (Str × Str)} (h : RRow w v l) (ho : Only fp w w') (hf : ∀ x cs, Blk w x 303 cs -> ¬ fp x) : RRow w' v l := by
 obtain ⟨base, h⟩ := h
 exact ⟨base, zak h ho hf⟩
theorem zca {w : World} {base n : Nat} {T : TypeId} {A : Option Addr} {c : Nat} {l : List (Str × Str)} (h : w.ownsRow base T 2 (.slice A n c) n (zaf l)) (hn : n = l.length) : n <= c /\ c <= maxLen /\ ∀ k x, l[k]? = some x -> ∃ g, A = some ⟨g, 0, none⟩ /\ w.cell? ⟨g, k * 2, none⟩ = some (.string x.1) /\ w.cell? ⟨g, k * 2 + 1, none⟩ = some (.string x.2) := by
 obtain ⟨h1, h2⟩ := h
 rcases h2 with ⟨h0, h3⟩ | ⟨g, cap, cur, hv, _, hg, a1, a2, a3, a4⟩
 . injection h0 with e1 e2 e3
   subst e3
   rw [e2]
   refine ⟨Nat.le_refl _, Nat.zero_le _, fun k x hk => ?_⟩
   obtain ⟨h, _⟩ := List.getElem?_eq_some_iff.1 hk
   omega
 . injection hv with e1 e2 e3
   subst e1 e3
   refine ⟨a1, a2, fun k x hx => ⟨g, rfl, ?_⟩⟩
   obtain ⟨hk, _⟩ := List.getElem?_eq_some_iff.1 hx
   have hb : Blk w g T cur := hg
   have hc := zks l k x hx
   rw [<- a4] at hc
   rw [List.getElem?_take_of_lt (by omega), List.getElem?_take_of_lt (by omega)] at hc
   exact ⟨zab hb _ (by simpa using hc.1), zab hb _ (by simpa using hc.2)⟩
theorem zmk (k : Str) (w : World) (hk : k.size <= 9223372036854775807) : Calls Tryz.prog 208 #[.string k] w fun e w' => e = .returned (.bool (decide (1 <= k.size /\ k.size <= 8))) /\ w = w' := by
 by_cases h1 : 1 <= k.size
 . have q1 : (1 : Int) <= k.size := by omega
   by_cases h2 : k.size <= 8
   . have q2 : (k.size : Int) <= 8 := by omega
     go_enter Tryz.func208, Tryz.ntmps208
     go_wp2
     go_ret
     exact ⟨zeh (by simp [h1, h2]), rfl⟩
   . have q2 : ¬ (k.size : Int) <= 8 := by omega
     go_enter Tryz.func208, Tryz.ntmps208
     go_wp2
     go_ret
     exact ⟨zeh (by simp []), rfl⟩
 . have q1 : ¬ (1 : Int) <= k.size := by omega
   go_enter Tryz.func208, Tryz.ntmps208
   go_wp2
   go_ret
   exact ⟨zeh (by simp []), rfl⟩
def zb5 (k v : Str) (s : List (Str × Str) × Bool) (p : Str × Str) : List (Str × Str) × Bool :=
 if s.2 = false /\ slt p.1 k = false then (s.1 ++ [(k, v)] ++ (if seq p.1 k then [] else [p]), true) else (s.1 ++ (if seq p.1 k then [] else [p]), s.2)
def ze4 (k v : Str) (l : List (Str × Str)) : List (Str × Str) × Bool := l.foldl (zb5 k v) ([], false)
def zcp (k v : Str) (l : List (Str × Str)) : List (Str × Str) := (ze4 k v l).1 ++ (if (ze4 k v l).2 then [] else [(k, v)])
theorem zpl (k v : Str) (l : List (Str × Str)) (p : Str × Str) : ze4 k v (l ++ [p]) = zb5 k v (ze4 k v l) p := by simp [ze4]
theorem zc4 (W : World) (T : TypeId) (a b : Str) (z : Nat) (hz : W.heap.size = z) : ∀ j u, [Value.string a, Value.string b][j]? = some u -> (W.alloc (.cells #[.string a, .string b] T)).cell? (Addr.add ⟨z, 0, none⟩ j) = some u := fun j u hu => by
 subst hz
 rw [Addr.add_lit]; exact (Blk.new W T #[.string a, .string b]).range (cur := [.string a, .string b]) (o := 0) rfl j u hu
def RefB (w wr : World) (A : Option Addr) (n c : Nat) : Prop := Blk wr w.heap.size 241 #[.slice A n c] /\ Blk wr (w.heap.size + 1) 241 #[.slice none 0 0] /\ Below w.heap.size w wr /\ w.heap.size + 2 <= wr.heap.size
theorem RefB.first (w : World) (A : Option Addr) (n c : Nat) : RefB w ((w.alloc (.cells #[.slice A n c] 241)).alloc (.cells #[.slice none 0 0] 241)) A n c :=
 ⟨(Blk.new _ _ _).alloc _, Blk.new2 _ _ _ _, ((Below.refl _ _).alloc (Nat.le_refl _) _).alloc (by simp) _, by simp⟩
theorem RefB.alloc {w wr : World} {A : Option Addr} {n c : Nat} (h : RefB w wr A n c) (o : Obj) : RefB w (wr.alloc o) A n c := ⟨h.1.alloc _, h.2.1.alloc _, h.2.2.1.alloc (by have := h.2.2.2; omega) _, by have := h.2.2.2; simp; omega⟩
theorem RefB.grown {w wr w2 : World} {A : Option Addr} {n c : Nat} {row : Option Nat} (h : RefB w wr A n c) (hg : wr.grownBy w2 row) (hr : ∀ g, row = some g -> w.heap.size + 2 <= g) : RefB w w2 A n c :=
 ⟨h.1.grown hg (fun e => by have := hr _ e.symm; omega), h.2.1.grown hg (fun e => by have := hr _ e.symm; omega), h.2.2.1.grown hg (by have := h.2.2.2; omega) (fun g e => by have := hr g e; omega), by have := hg.size; have := h.2.2.2; omega⟩
set_option maxHeartbeats 300000 in
theorem zir (lv : Value) (l : List (Str × Str)) (k v : Str) (w : World) (h : RRow w lv l) (hl : l.length <= 1000) :
   Calls Tryz.prog 204 #[.agg #[lv], .string k, .string v] w fun e w' => ∃ lv', e = .returned (.agg #[lv']) /\ RRow w' lv' (zcp k v l) /\ Below w.heap.size w w' := by
 obtain ⟨i0, hi0, hz0, hz1, hz2⟩ := info_parts ze3
 have HI0 := zaa hi0
 have HZ0 := zaa hz0
 have HZ1 := zaa hz1
 have HZ2 := zaa hz2
 obtain ⟨A, c, rfl⟩ := h.form
 obtain ⟨base, hown0⟩ := h
 obtain ⟨n, hn⟩ : ∃ n, n = l.length := ⟨_, rfl⟩
 rw [<- hn] at hown0 hl ⊢
 obtain ⟨hc1, hc2, hc⟩ := zca hown0 hn
 have HN := zaa hn
 have HC := zaa hc
 clear hi0 hz0 hz1 hz2 hown0 hc hn
 go_enter Tryz.func204, Tryz.ntmps204
 go_wp2
 go_loopw [7, 8, 9] (fun o p i wr => ∃ j : Nat, j <= n /\ i = .int .i64 j /\ (∃ out put, ze4 k v (l.take j) = (out, put) /\ p = .bool put /\ out.length <= 2 * j /\ wr.ownsRow (w.heap.size + 2) 303 2 o out.length (zaf out)) /\ RefB w wr A n c) (fun _ _ i _ => n - (intOf i).toNat)
 case atStart => exact ⟨0, Nat.zero_le _, rfl, ⟨[], false, rfl, rfl, Nat.zero_le _, World.ownsRow_nil _ _ _ _⟩, RefB.first _ _ _ _⟩
 case round =>
  obtain ⟨j, hj, rfl, ⟨out, put, hf, rfl, hol, hown⟩, hbr⟩ := hrel
  obtain ⟨A1, c1, rfl, hrest⟩ := zad hown
  have q0 := zab hbr.1 0 rfl
  have q0' := fun o => zaj o q0
  have q1 := zab hbr.2.1 0 rfl
  have f1 := hbr.2.1.frozen 0
  have hsz := hbr.2.2.2
  by_cases hlt : j < n
  . have m0 : (0 : Int) <= (j : Int) := by omega
    have m1 : (j : Int) < (n : Int) := by omega
    have hwr : IntKind.i64.wrap ((j : Int) + 1) = (j : Int) + 1 := by rw [IntKind.wrap_i64]; omega
    have hjl : j < l.length := by have := HN.out; omega
    obtain ⟨⟨a, b⟩, hx⟩ : ∃ x, l[j]? = some x := ⟨_, List.getElem?_eq_getElem hjl⟩
    have hnext : ze4 k v (l.take (j + 1)) = zb5 k v (out, put) (a, b) := by rw [List.take_add_one, hx, Option.toList_some, zpl, hf]
    obtain ⟨g, rfl, x1, x2⟩ := HC.out j _ hx
    replace x1 := za4 x1 hbr.2.2.1
    replace x2 := za4 x2 hbr.2.2.1
    have HX := zaa hnext
    have HO := zaa hown
    have HB := zaa hbr
    clear hf hown hbr hnext hx hjl q1 f1 hrest
    by_cases he : seq a k = true
    . obtain rfl := zf6.1 he
      by_cases hp : put = false /\ slt a a = false
      . obtain ⟨rfl, hp⟩ := hp
        have p1 : Op.bytesLess a.toList a.toList = false := hp
        go_wp2_with (first
         | (at_builtin; (
            refine zah _ rfl _ _ 239 rfl (w.heap.size + 2) 303 i0 _ 2 32 Tryz.underlying239 HI0.out HZ0.out HZ1.out HZ2.out rfl (by decide) (.slice A1 (out.length) c1) (out.length) _ rfl ((HO.out.alloc _).alloc _) (wr.heap.size + 1 + 1) (some ⟨wr.heap.size + 1, 0, none⟩) 1 1 [.string a, .string v] rfl ⟨rfl, fun _ => ⟨_, rfl, Nat.lt_succ_self _, zc4 _ _ _ _ _ ?_⟩⟩ ?_ ?_ ?_ ?_ ?_
            . first | rfl | (simp only [World.size_alloc])
            . simp [Value.oneCell']
            . unfold maxLen; omega
            . omega
            . simp only [World.size_alloc]; omega
            intro vw2 w2 hown2 hgr2 hat2
            have hb2 := RefB.grown ((HB.out.alloc _).alloc _) hgr2 (fun g' e => (zaz HO.out e).1)
            obtain ⟨A2, c2, rfl, _⟩ := zad hown2
            have hpb := ((Blk.new wr 303 #[.string a, .string b]).alloc (.cells #[.string a, .string v] 303)).grown hgr2 (fun e => by have := (zaz HO.out e.symm).2; omega)
            have y1 := zab hpb 0 rfl
            have y2 := zab hpb 1 rfl
            clear hpb
            have q0w2 := zab hb2.1 0 rfl
            have q0w2' := fun o => zaj o q0w2
            have hszw2 := hb2.2.2.2
            have HO2 := zaa hown2
            have HB2 := zaa hb2
            clear hown2 hgr2 hat2 hb2)))
        go_roundw
        case rel =>
         refine ⟨j + 1, by omega, by go_num, ⟨out ++ [(a, v)], true, ?_, rfl, ?_, ?_⟩, HB2.out⟩
         . rw [HX.out]; unfold zb5; rw [if_pos ⟨rfl, hp⟩, if_pos he, List.append_nil]
         . rw [List.length_append]; simp; omega
         . rw [za1, List.length_append]; exact HO2.out
        case measure => simp [intOf]; omega
      . have hst : zb5 a v (out, put) (a, b) = (out, put) := by unfold zb5; rw [if_neg hp, if_pos he, List.append_nil]
        have HST := zaa hst
        clear hst
        cases put with
        | true =>
          go_wp2
          go_roundw
          case rel =>
           refine ⟨j + 1, by omega, by go_num, ⟨out, true, HX.out.trans HST.out, rfl, by omega, ?_⟩, HB.out.alloc _⟩
           exact HO.out.alloc _
          case measure => simp [intOf]; omega
        | false =>
          exfalso
          apply hp
          exact ⟨rfl, zbb _⟩
    . have p2 : (a.toList == k.toList) = false := by
        cases h : seq a k with
        | true => exact absurd h he
        | false => exact h
      by_cases hp : put = false /\ slt a k = false
      . obtain ⟨rfl, hp⟩ := hp
        have p1 : Op.bytesLess a.toList k.toList = false := hp
        go_wp2_with (first
         | (at_builtin; (
            refine zah _ rfl _ _ 239 rfl (w.heap.size + 2) 303 i0 _ 2 32 Tryz.underlying239 HI0.out HZ0.out HZ1.out HZ2.out rfl (by decide) (.slice A1 (out.length) c1) (out.length) _ rfl ((HO.out.alloc _).alloc _) (wr.heap.size + 1 + 1) (some ⟨wr.heap.size + 1, 0, none⟩) 1 1 [.string k, .string v] rfl ⟨rfl, fun _ => ⟨_, rfl, Nat.lt_succ_self _, zc4 _ _ _ _ _ ?_⟩⟩ ?_ ?_ ?_ ?_ ?_
            . first | rfl | (simp only [World.size_alloc])
            . simp [Value.oneCell']
            . unfold maxLen; omega
            . omega
            . simp only [World.size_alloc]; omega
            intro vw2 w2 hown2 hgr2 hat2
            have hb2 := RefB.grown ((HB.out.alloc _).alloc _) hgr2 (fun g' e => (zaz HO.out e).1)
            obtain ⟨A2, c2, rfl, _⟩ := zad hown2
            have hpb := ((Blk.new wr 303 #[.string a, .string b]).alloc (.cells #[.string k, .string v] 303)).grown hgr2 (fun e => by have := (zaz HO.out e.symm).2; omega)
            have y1 := zab hpb 0 rfl
            have y2 := zab hpb 1 rfl
            clear hpb
            have q0w2 := zab hb2.1 0 rfl
            have q0w2' := fun o => zaj o q0w2
            have hszw2 := hb2.2.2.2
            have HO2 := zaa hown2
            have HB2 := zaa hb2
            clear hown2 hgr2 hat2 hb2))
         | (at_builtin; (
            refine zah _ rfl _ _ 239 rfl (w.heap.size + 2) 303 i0 _ 2 32 Tryz.underlying239 HI0.out HZ0.out HZ1.out HZ2.out rfl (by decide) (.slice A2 (out.length + 1) c2) (out.length + 1) _ rfl (HO2.out.alloc _) (w2.heap.size + 1) (some ⟨w2.heap.size, 0, none⟩) 1 1 [.string a, .string b] rfl ⟨rfl, fun _ => ⟨_, rfl, Nat.lt_succ_self _, zc4 _ _ _ _ _ ?_⟩⟩ ?_ ?_ ?_ ?_ ?_
            . first | rfl | (simp only [World.size_alloc])
            . simp [Value.oneCell']
            . unfold maxLen; omega
            . omega
            . simp only [World.size_alloc]; omega
            intro vw3 w3 hown2 hgr2 hat2
            have hb2 := RefB.grown (HB2.out.alloc _) hgr2 (fun g' e => (zaz HO2.out e).1)
            obtain ⟨A3, c3, rfl, _⟩ := zad hown2
            have q0w3 := zab hb2.1 0 rfl
            have q0w3' := fun o => zaj o q0w3
            have hszw3 := hb2.2.2.2
            have HO3 := zaa hown2
            have HB3 := zaa hb2
            clear hown2 hgr2 hat2 hb2)))
        go_roundw
        case rel =>
         refine ⟨j + 1, by omega, by go_num, ⟨out ++ [(k, v)] ++ [(a, b)], true, ?_, rfl, ?_, ?_⟩, HB3.out⟩
         . rw [HX.out]; unfold zb5; rw [if_pos ⟨rfl, hp⟩, if_neg he]
         . simp only [List.length_append, List.length_cons, List.length_nil]; omega
         . rw [za1, za1, List.length_append, List.length_append]; exact HO3.out
        case measure => simp [intOf]; omega
      . have hst : zb5 k v (out, put) (a, b) = (out ++ [(a, b)], put) := by unfold zb5; rw [if_neg hp, if_neg he]
        have HST := zaa hst
        clear hst
        cases put with
        | true =>
          clear hp
          go_wp2_with (first
           | (at_builtin; (
              refine zah _ rfl _ _ 239 rfl (w.heap.size + 2) 303 i0 _ 2 32 Tryz.underlying239 HI0.out HZ0.out HZ1.out HZ2.out rfl (by decide) (.slice A1 (out.length) c1) (out.length) _ rfl ((HO.out.alloc _).alloc _) (wr.heap.size + 1 + 1) (some ⟨wr.heap.size + 1, 0, none⟩) 1 1 [.string a, .string b] rfl ⟨rfl, fun _ => ⟨_, rfl, Nat.lt_succ_self _, zc4 _ _ _ _ _ ?_⟩⟩ ?_ ?_ ?_ ?_ ?_
              . first | rfl | (simp only [World.size_alloc])
              . simp [Value.oneCell']
              . unfold maxLen; omega
              . omega
              . simp only [World.size_alloc]; omega
              intro vw2 w2 hown2 hgr2 hat2
              have hb2 := RefB.grown ((HB.out.alloc _).alloc _) hgr2 (fun g' e => (zaz HO.out e).1)
              obtain ⟨A2, c2, rfl, _⟩ := zad hown2
              have q0w2 := zab hb2.1 0 rfl
              have q0w2' := fun o => zaj o q0w2
              have hszw2 := hb2.2.2.2
              have HO2 := zaa hown2
              have HB2 := zaa hb2
              clear hown2 hgr2 hat2 hb2)))
          go_roundw
          case rel =>
           refine ⟨j + 1, by omega, by go_num, ⟨out ++ [(a, b)], true, HX.out.trans HST.out, rfl, ?_, ?_⟩, HB2.out⟩
           . rw [List.length_append]; simp; omega
           . rw [za1, List.length_append]; exact HO2.out
          case measure => simp [intOf]; omega
        | false =>
          have p1 : Op.bytesLess a.toList k.toList = true := by
           cases h : slt a k with
           | true => exact h
           | false => exact absurd ⟨rfl, h⟩ hp
          clear hp
          go_wp2_with (first
           | (at_builtin; (
              refine zah _ rfl _ _ 239 rfl (w.heap.size + 2) 303 i0 _ 2 32 Tryz.underlying239 HI0.out HZ0.out HZ1.out HZ2.out rfl (by decide) (.slice A1 (out.length) c1) (out.length) _ rfl ((HO.out.alloc _).alloc _) (wr.heap.size + 1 + 1) (some ⟨wr.heap.size + 1, 0, none⟩) 1 1 [.string a, .string b] rfl ⟨rfl, fun _ => ⟨_, rfl, Nat.lt_succ_self _, zc4 _ _ _ _ _ ?_⟩⟩ ?_ ?_ ?_ ?_ ?_
              . first | rfl | (simp only [World.size_alloc])
              . simp [Value.oneCell']
              . unfold maxLen; omega
              . omega
              . simp only [World.size_alloc]; omega
              intro vw2 w2 hown2 hgr2 hat2
              have hb2 := RefB.grown ((HB.out.alloc _).alloc _) hgr2 (fun g' e => (zaz HO.out e).1)
              obtain ⟨A2, c2, rfl, _⟩ := zad hown2
              have q0w2 := zab hb2.1 0 rfl
              have q0w2' := fun o => zaj o q0w2
              have hszw2 := hb2.2.2.2
              have HO2 := zaa hown2
              have HB2 := zaa hb2
              clear hown2 hgr2 hat2 hb2)))
          go_roundw
          case rel =>
           refine ⟨j + 1, by omega, by go_num, ⟨out ++ [(a, b)], false, HX.out.trans HST.out, rfl, ?_, ?_⟩, HB2.out⟩
           . rw [List.length_append]; simp; omega
           . rw [za1, List.length_append]; exact HO2.out
          case measure => simp [intOf]; omega
  . have m1 : ¬ (j : Int) < (n : Int) := by omega
    obtain rfl : j = n := by omega
    have hall : ze4 k v l = (out, put) := by rw [<- hf, HN.out, List.take_length]
    have HA := zaa hall
    have HO := zaa hown
    have HB := zaa hbr
    clear hall hf hown hbr hrest
    cases put with
    | true =>
      go_wp2
      have r0 : (wr.setCell ⟨w.heap.size + 1, 0, none⟩ (.slice A1 out.length c1)).cell? ⟨w.heap.size + 1, 0, none⟩ = some (.slice A1 out.length c1) := zab (HB.out.2.1.set_ 0 _) 0 rfl
      (try simp only [Exit.inBlock, Exit.then])
      refine bodyPost_ret (v := .agg #[.slice A1 out.length c1]) (by simp [results, Tryz.results204, go_sem, r0]) rfl ⟨_, rfl, ?_, ?_⟩
      . have e : zcp k v l = out := by unfold zcp; rw [HA.out]; simp
        rw [e]
        exact ⟨_, zbh HO.out (by show w.heap.size + 1 < w.heap.size + 2; omega) _⟩
      . exact HB.out.2.2.1.setCell (by simp) _
    | false =>
      clear q1 f1
      go_wp2_with (first
       | (at_builtin; (
          refine zah _ rfl _ _ 239 rfl (w.heap.size + 2) 303 i0 _ 2 32 Tryz.underlying239 HI0.out HZ0.out HZ1.out HZ2.out rfl (by decide) (.slice A1 (out.length) c1) (out.length) _ rfl (HO.out.alloc _) (wr.heap.size + 1) (some ⟨wr.heap.size, 0, none⟩) 1 1 [.string k, .string v] rfl ⟨rfl, fun _ => ⟨_, rfl, Nat.lt_succ_self _, zc4 _ _ _ _ _ ?_⟩⟩ ?_ ?_ ?_ ?_ ?_
          . first | rfl | (simp only [World.size_alloc])
          . simp [Value.oneCell']
          . unfold maxLen; omega
          . omega
          . simp only [World.size_alloc]; omega
          intro vw2 w2 hown2 hgr2 hat2
          have hb2 := RefB.grown (HB.out.alloc _) hgr2 (fun g' e => (zaz HO.out e).1)
          obtain ⟨A2, c2, rfl, _⟩ := zad hown2
          have q12 := zab hb2.2.1 0 rfl
          have f12 := hb2.2.1.frozen 0
          have q0w2 := zab hb2.1 0 rfl
          have q0w2' := fun o => zaj o q0w2
          have hszw2 := hb2.2.2.2
          have HO2 := zaa hown2
          have HB2 := zaa hb2
          clear hown2 hgr2 hat2 hb2)))
      have r0 : (w2.setCell ⟨w.heap.size + 1, 0, none⟩ (.slice A2 (out.length + 1) c2)).cell? ⟨w.heap.size + 1, 0, none⟩ = some (.slice A2 (out.length + 1) c2) := zab (HB2.out.2.1.set_ 0 _) 0 rfl
      (try simp only [Exit.inBlock, Exit.then])
      refine bodyPost_ret (v := .agg #[.slice A2 (out.length + 1) c2]) (by simp [results, Tryz.results204, go_sem, r0]) rfl ⟨_, rfl, ?_, ?_⟩
      . have e : zcp k v l = out ++ [(k, v)] := by unfold zcp; rw [HA.out]; simp
        rw [e]
        exact ⟨w.heap.size + 2, by rw [za1, List.length_append]; exact zbh HO2.out (by show w.heap.size + 1 < w.heap.size + 2; omega) _⟩
      . exact HB2.out.2.2.1.setCell (by simp) _
def zd4 (k : Str) (l : List (Str × Str)) : List (Str × Str) := l.filter fun p => !seq p.1 k
theorem zpm (k : Str) (l : List (Str × Str)) (p : Str × Str) : zd4 k (l ++ [p]) = zd4 k l ++ (if seq p.1 k then [] else [p]) := by
 unfold zd4
 rw [List.filter_append]
 cases h : seq p.1 k <;> simp [h]
set_option maxHeartbeats 2000000 in
theorem zst (lv : Value) (l : List (Str × Str)) (k : Str) (w : World) (h : RRow w lv l) (hl : l.length <= 1000) :
   Calls Tryz.prog 205 #[.agg #[lv], .string k] w fun e w' => ∃ lv', e = .returned (.agg #[lv']) /\ RRow w' lv' (zd4 k l) /\ Below w.heap.size w w' := by
 obtain ⟨i0, hi0, hz0, hz1, hz2⟩ := info_parts ze3
 have HI0 := zaa hi0
 have HZ0 := zaa hz0
 have HZ1 := zaa hz1
 have HZ2 := zaa hz2
 obtain ⟨A, c, rfl⟩ := h.form
 obtain ⟨base, hown0⟩ := h
 obtain ⟨n, hn⟩ : ∃ n, n = l.length := ⟨_, rfl⟩
 rw [<- hn] at hown0 hl ⊢
 obtain ⟨hc1, hc2, hc⟩ := zca hown0 hn
 have HN := zaa hn
 have HC := zaa hc
 clear hi0 hz0 hz1 hz2 hown0 hc hn
 go_enter Tryz.func205, Tryz.ntmps205
 go_wp2
 go_loopw [5, 6] (fun o i wr => ∃ j : Nat, j <= n /\ i = .int .i64 j /\ (∃ out, zd4 k (l.take j) = out /\ out.length <= j /\ wr.ownsRow (w.heap.size + 2) 303 2 o out.length (zaf out)) /\ RefB w wr A n c) (fun _ i _ => n - (intOf i).toNat)
 case atStart => exact ⟨0, Nat.zero_le _, rfl, ⟨[], rfl, Nat.zero_le _, World.ownsRow_nil _ _ _ _⟩, RefB.first _ _ _ _⟩
 case round =>
  obtain ⟨j, hj, rfl, ⟨out, hf, hol, hown⟩, hbr⟩ := hrel
  obtain ⟨A1, c1, rfl, hrest⟩ := zad hown
  have q0 := zab hbr.1 0 rfl
  have q0' := fun o => zaj o q0
  have q1 := zab hbr.2.1 0 rfl
  have f1 := hbr.2.1.frozen 0
  have hsz := hbr.2.2.2
  by_cases hlt : j < n
  . have m0 : (0 : Int) <= (j : Int) := by omega
    have m1 : (j : Int) < (n : Int) := by omega
    have hwr : IntKind.i64.wrap ((j : Int) + 1) = (j : Int) + 1 := by rw [IntKind.wrap_i64]; omega
    have hjl : j < l.length := by have := HN.out; omega
    obtain ⟨⟨a, b⟩, hx⟩ : ∃ x, l[j]? = some x := ⟨_, List.getElem?_eq_getElem hjl⟩
    have hnext : zd4 k (l.take (j + 1)) = out ++ (if seq a k then [] else [(a, b)]) := by rw [List.take_add_one, hx, Option.toList_some, zpm, hf]
    obtain ⟨g, rfl, x1, x2⟩ := HC.out j _ hx
    replace x1 := za4 x1 hbr.2.2.1
    replace x2 := za4 x2 hbr.2.2.1
    have HX := zaa hnext
    have HO := zaa hown
    have HB := zaa hbr
    clear hf hown hbr hnext hx hjl q1 f1 hrest
    by_cases he : seq a k = true
    . obtain rfl := zf6.1 he
      go_wp2
      go_roundw
      case rel =>
       refine ⟨j + 1, by omega, by go_num, ⟨out, ?_, by omega, HO.out⟩, HB.out⟩
       rw [HX.out, if_pos he, List.append_nil]
      case measure => simp [intOf]; omega
    . have p2 : (a.toList == k.toList) = false := by
        cases h : seq a k with
        | true => exact absurd h he
        | false => exact h
      go_wp2_with (first
       | (at_builtin; (
          refine zah _ rfl _ _ 239 rfl (w.heap.size + 2) 303 i0 _ 2 32 Tryz.underlying239 HI0.out HZ0.out HZ1.out HZ2.out rfl (by decide) (.slice A1 (out.length) c1) (out.length) _ rfl (HO.out.alloc _) (wr.heap.size + 1) (some ⟨wr.heap.size, 0, none⟩) 1 1 [.string a, .string b] rfl ⟨rfl, fun _ => ⟨_, rfl, Nat.lt_succ_self _, zc4 _ _ _ _ _ ?_⟩⟩ ?_ ?_ ?_ ?_ ?_
          . first | rfl | (simp only [World.size_alloc])
          . simp [Value.oneCell']
          . unfold maxLen; omega
          . omega
          . simp only [World.size_alloc]; omega
          intro vw2 w2 hown2 hgr2 hat2
          have hb2 := RefB.grown (HB.out.alloc _) hgr2 (fun g' e => (zaz HO.out e).1)
          obtain ⟨A2, c2, rfl, _⟩ := zad hown2
          have q0w2 := zab hb2.1 0 rfl
          have q0w2' := fun o => zaj o q0w2
          have hszw2 := hb2.2.2.2
          have HO2 := zaa hown2
          have HB2 := zaa hb2
          clear hown2 hgr2 hat2 hb2)))
      go_roundw
      case rel =>
       refine ⟨j + 1, by omega, by go_num, ⟨out ++ [(a, b)], ?_, ?_, ?_⟩, HB2.out⟩
       . rw [HX.out, if_neg he]
       . rw [List.length_append]; simp; omega
       . rw [za1, List.length_append]; exact HO2.out
      case measure => simp [intOf]; omega
  . have m1 : ¬ (j : Int) < (n : Int) := by omega
    obtain rfl : j = n := by omega
    have hall : zd4 k l = out := by rw [<- hf, HN.out, List.take_length]
    have HA := zaa hall
    have HO := zaa hown
    have HB := zaa hbr
    clear hall hf hown hbr hrest
    go_wp2
    have r0 : (wr.setCell ⟨w.heap.size + 1, 0, none⟩ (.slice A1 out.length c1)).cell? ⟨w.heap.size + 1, 0, none⟩ = some (.slice A1 out.length c1) := zab (HB.out.2.1.set_ 0 _) 0 rfl
    (try simp only [Exit.inBlock, Exit.then])
    refine bodyPost_ret (v := .agg #[.slice A1 out.length c1]) (by simp [results, Tryz.results205, go_sem, r0]) rfl ⟨_, rfl, ?_, ?_⟩
    . rw [HA.out]
      exact ⟨_, zbh HO.out (by show w.heap.size + 1 < w.heap.size + 2; omega) _⟩
    . exact HB.out.2.2.1.setCell (by simp) _
def ze5 (k : Str) (l : List (Str × Str)) : Option Str := (l.find? fun p => seq p.1 k).map (·.2)
set_option maxHeartbeats 2000000 in
theorem zsu (lv : Value) (l : List (Str × Str)) (k : Str) (w : World) (h : RRow w lv l) (hl : l.length <= 1000) :
   Calls Tryz.prog 209 #[.agg #[lv], .string k] w fun e w' => e = .returned (.tuple #[.string ((ze5 k l).getD ⟨#[]⟩), .bool (ze5 k l).isSome]) /\ Below w.heap.size w w' := by
 obtain ⟨A, c, rfl⟩ := h.form
 obtain ⟨base, hown0⟩ := h
 obtain ⟨n, hn⟩ : ∃ n, n = l.length := ⟨_, rfl⟩
 rw [<- hn] at hown0 hl ⊢
 obtain ⟨hc1, hc2, hc⟩ := zca hown0 hn
 obtain ⟨r, hr⟩ : ∃ r, r = ze5 k l := ⟨_, rfl⟩
 rw [<- hr]
 have HR := zaa hr
 have HN := zaa hn
 have HC := zaa hc
 clear hown0 hc hn hr
 go_enter Tryz.func209, Tryz.ntmps209
 go_wp2
 go_loopw [6] (fun i wr => ∃ j : Nat, j <= n /\ i = .int .i64 j /\ (∀ p ∈ l.take j, seq p.1 k = false) /\ Blk wr w.heap.size 241 #[.slice A n c] /\ Below w.heap.size w wr) (fun i _ => n - (intOf i).toNat)
 case atStart => exact ⟨0, Nat.zero_le _, rfl, (by simp), Blk.new _ _ _, (Below.refl _ _).alloc (Nat.le_refl _) _⟩
 case round =>
  obtain ⟨j, hj, rfl, hno, hbox, hbr⟩ := hrel
  have q0 := zab hbox 0 rfl
  by_cases hlt : j < n
  . have m0 : (0 : Int) <= (j : Int) := by omega
    have m1 : (j : Int) < (n : Int) := by omega
    have hwr : IntKind.i64.wrap ((j : Int) + 1) = (j : Int) + 1 := by rw [IntKind.wrap_i64]; omega
    have hjl : j < l.length := by have := HN.out; omega
    obtain ⟨⟨a, b⟩, hx⟩ : ∃ x, l[j]? = some x := ⟨_, List.getElem?_eq_getElem hjl⟩
    have hsplit : l = l.take j ++ (a, b) :: l.drop (j + 1) := by
     have e := (List.getElem?_eq_some_iff.1 hx).2
     rw [<- e, List.getElem_cons_drop, List.take_append_drop]
    obtain ⟨g, rfl, x1, x2⟩ := HC.out j _ hx
    replace x1 := za4 x1 hbr
    replace x2 := za4 x2 hbr
    have htk : l.take (j + 1) = l.take j ++ [(a, b)] := by rw [List.take_add_one, hx, Option.toList_some]
    have HS := zaa hsplit
    have HT := zaa htk
    have HNO := zaa hno
    have HBX := zaa hbox
    have HB := zaa hbr
    clear hno hbox hbr hsplit hx hjl htk
    by_cases he : seq a k = true
    . have hfl : r = some b := by
        rw [HR.out]
        unfold ze5
        rw [HS.out, List.find?_append, List.find?_eq_none.2 (by simpa using HNO.out), Option.none_or, List.find?_cons]
        simp only [he]
        rfl
      subst hfl
      obtain rfl := zf6.1 he
      go_wp2
      go_ret2
      exact ⟨rfl, HB.out⟩
    . have he' : seq a k = false := by
        cases h : seq a k with
        | true => exact absurd h he
        | false => rfl
      have p2 : (a.toList == k.toList) = false := he'
      go_wp2
      go_roundw
      case rel =>
       refine ⟨j + 1, by omega, by go_num, ?_, HBX.out, HB.out⟩
       intro p hp
       rw [HT.out] at hp
       rcases List.mem_append.1 hp with hp | hp
       . exact HNO.out p hp
       . rw [List.mem_singleton.1 hp]; exact he'
      case measure => simp [intOf]; omega
  . have m1 : ¬ (j : Int) < (n : Int) := by omega
    obtain rfl : j = n := by omega
    have hall : r = none := by
     rw [HR.out]
     unfold ze5
     rw [HN.out, List.take_length] at hno
     rw [List.find?_eq_none.2 (by simpa using hno)]
     rfl
    subst hall
    have HB := zaa hbr
    clear hno hbr
    go_wp2
    go_ret2
    exact ⟨rfl, HB.out⟩
def chgN (write done : Bool) (k v : Str) : Nat := if done then 5 else if !write then 6 else if k.size < 1 \/ 8 < k.size then 1 else if 12 < v.size then 2 else 0
set_option maxHeartbeats 2000000 in
theorem zgq (lv : Value) (write done : Bool) (ch most cm st : Int) (k v : Str) (w : World) (hk : k.size <= 9223372036854775807) (hv : v.size <= 9223372036854775807) :
   Calls Tryz.prog 203 #[.agg #[lv, .bool write, .bool done, .int .i64 ch, .int .i64 most, .int .i64 cm, .int .i64 st], .string k, .string v] w fun e w' => e = .returned (.int .i64 (chgN write done k v : Nat)) /\ Below w.heap.size w w' := by
 have hb := (Below.refl w.heap.size w).alloc (Nat.le_refl _) (.cells #[lv, .bool write, .bool done, .int .i64 ch, .int .i64 most, .int .i64 cm, .int .i64 st] 270)
 have HK := zaa (fun W => zmk k W hk)
 cases done with
 | true =>
   go_enter Tryz.func203, Tryz.ntmps203
   go_wp2_with (go_at_call 208; refine (HK.out _).mono ?_; rintro e w' ⟨rfl, rfl⟩)
   go_ret
   exact ⟨rfl, hb⟩
 | false =>
   cases write with
   | false =>
     go_enter Tryz.func203, Tryz.ntmps203
     go_wp2_with (go_at_call 208; refine (HK.out _).mono ?_; rintro e w' ⟨rfl, rfl⟩)
     go_ret
     exact ⟨rfl, hb⟩
   | true =>
     by_cases h1 : 1 <= k.size /\ k.size <= 8
     . have hn1 : ¬ (k.size < 1 \/ 8 < k.size) := by omega
       by_cases h2 : 12 < v.size
       . have q2 : (12 : Int) < v.size := by omega
         have hz : chgN true false k v = 2 := by unfold chgN; rw [if_neg (by simp), if_neg (by simp), if_neg hn1]; simp [h2]
         rw [hz]
         go_enter Tryz.func203, Tryz.ntmps203
         go_wp2_with (go_at_call 208; refine (HK.out _).mono ?_; rintro e w' ⟨rfl, rfl⟩; rw [decide_eq_true h1])
         go_ret
         exact ⟨rfl, hb⟩
       . have q2 : ¬ (12 : Int) < v.size := by omega
         have hz : chgN true false k v = 0 := by unfold chgN; rw [if_neg (by simp), if_neg (by simp), if_neg hn1]; simp [h2]
         rw [hz]
         go_enter Tryz.func203, Tryz.ntmps203
         go_wp2_with (go_at_call 208; refine (HK.out _).mono ?_; rintro e w' ⟨rfl, rfl⟩; rw [decide_eq_true h1])
         go_ret
         exact ⟨rfl, hb⟩
     . have hn1 : k.size < 1 \/ 8 < k.size := by omega
       have hz : chgN true false k v = 1 := by unfold chgN; rw [if_neg (by simp), if_neg (by simp), if_pos hn1]
       rw [hz]
       go_enter Tryz.func203, Tryz.ntmps203
       go_wp2_with (go_at_call 208; refine (HK.out _).mono ?_; rintro e w' ⟨rfl, rfl⟩; rw [decide_eq_false h1])
       go_ret
       exact ⟨rfl, hb⟩
end Go.Proofs.YtemondlgcmpbbaaGreatDoor
namespace Go.Proofs.YtemondlgcmpbbaaGreatDoor
set_option maxRecDepth 100000
theorem zsv {k v : Str} {p : Str × Str} (hp : slt p.1 k = true) (o : List (Str × Str)) (b : Bool) : zb5 k v (o, b) p = (o ++ [p], b) := by
 unfold zb5
 rw [if_neg (by rintro ⟨_, h⟩; rw [hp] at h; cases h), zcu (zcv hp)]
 rfl
theorem zml {k v : Str} : ∀ (l o : List (Str × Str)) (b : Bool), (∀ e ∈ l, slt e.1 k = true) -> l.foldl (zb5 k v) (o, b) = (o ++ l, b)
 | [], o, b, _ => by simp
 | p :: l, o, b, h => by
   rw [List.foldl_cons, zsv (h p (by simp)), zml l _ _ (fun e he => h e (by simp [he]))]
   simp
theorem zis {k v : Str} : ∀ (l o : List (Str × Str)), (∀ e ∈ l, slt k e.1 = true) -> l.foldl (zb5 k v) (o, true) = (o ++ l, true)
 | [], o, _ => by simp
 | p :: l, o, h => by
   have hs : zb5 k v (o, true) p = (o ++ [p], true) := by
    unfold zb5
    rw [if_neg (by rintro ⟨h, _⟩; cases h), zcu (fun e => zcv (h p (by simp)) e.symm)]
    rfl
   rw [List.foldl_cons, hs, zis l _ (fun e he => h e (by simp [he]))]
   simp
theorem zsw {k v : Str} {l : List (Str × Str)} (hr : zcs l) : zcp k v l = zb7 k v l := by
 obtain ⟨a, b, c, hl, _, ha, hc, hb⟩ := zc6 k l hr
 have hb' : b = [] \/ ∃ u, b = [(k, u)] := hb.imp (fun h => h.1) fun ⟨u, h, _⟩ => ⟨u, h⟩
 rw [hl, zgi k v a c b ha hc hb']
 have hw : ∀ o, (b ++ c).foldl (zb5 k v) (o, false) = (o ++ (if c = [] /\ b = [] then [] else [(k, v)]) ++ c, !decide (c = [] /\ b = [])) := fun o => by
  rcases hb' with rfl | ⟨u, rfl⟩
  . cases c with
    | nil => simp
    | cons p c =>
      have hp := hc p (by simp)
      have hs : zb5 k v (o, false) p = (o ++ [(k, v)] ++ [p], true) := by
       unfold zb5
       rw [if_pos ⟨rfl, zbu hp⟩, zcu (fun e => zcv hp e.symm)]
       rfl
      rw [List.nil_append, List.foldl_cons, hs, zis c _ (fun e he => hc e (by simp [he]))]
      simp
  . have hs : zb5 k v (o, false) (k, u) = (o ++ [(k, v)], true) := by
      unfold zb5
      rw [if_pos ⟨rfl, zbb _⟩, zc1]
      simp
    rw [List.singleton_append, List.foldl_cons, hs, zis c _ hc]
    simp
 unfold zcp ze4
 rw [List.append_assoc, List.foldl_append, zml a [] false ha, hw]
 by_cases h : c = [] /\ b = []
 . simp [h.1, h.2]
 . simp [h]
theorem zsx {k : Str} {l : List (Str × Str)} (hr : zcs l) : zd4 k l = zgk k l := by
 obtain ⟨a, b, c, hl, _, ha, hc, hb⟩ := zc6 k l hr
 have h1 : a.filter (fun p => !seq p.1 k) = a := List.filter_eq_self.2 fun e he => by rw [zcu (zcv (ha e he))]; rfl
 have h2 : c.filter (fun p => !seq p.1 k) = c := List.filter_eq_self.2 fun e he => by rw [zcu (fun h => zcv (hc e he) h.symm)]; rfl
 unfold zgk zd4
 rcases hb with ⟨rfl, ht⟩ | ⟨u, rfl, ht⟩
 . rw [ht, hl, List.filter_append, List.filter_append, h1, h2]
   simp
 . rw [ht, hl, List.filter_append, List.filter_append, h1, h2, zh6 k u a c ha hc]
   simp [zc1]
theorem zsy {k : Str} {l : List (Str × Str)} (hr : zcs l) : ze5 k l = zbs k l := by
 obtain ⟨a, b, c, hl, _, ha, hc, hb⟩ := zc6 k l hr
 have h1 : a.find? (fun p => seq p.1 k) = none := List.find?_eq_none.2 fun e he => by rw [zcu (zcv (ha e he))]; simp
 have h2 : c.find? (fun p => seq p.1 k) = none := List.find?_eq_none.2 fun e he => by rw [zcu (fun h => zcv (hc e he) h.symm)]; simp
 have h3 := zlt k a c ha hc
 unfold ze5
 rcases hb with ⟨rfl, _⟩ | ⟨u, rfl, _⟩
 . rw [hl, h3.1, List.append_nil, List.find?_append, h1, h2]; rfl
 . rw [hl, h3.2 u, List.append_assoc, List.find?_append, h1, List.singleton_append, List.find?_cons]
   simp [zc1]
end Go.Proofs.YtemondlgcmpbbaaGreatDoor
namespace Go.Proofs.YtemondlgcmpbbaaGreatDoor
open Go.RowKit
set_option maxRecDepth 100000
def zdm (n : Nat) : Int := (((n : Int) - 12)).tdiv 3
theorem zmm (dk b n c : Nat) (hd : Hd) (A : Option Addr) (cv : Value) (m : Nums) (w : World) (hk : Blk w dk 151 (#[dev b] ++ hd.cells)) (h : DkAt w b (.slice A n c) cv m) (hn : n <= 1000) :
   Calls Tryz.prog 57 #[.pointer (some ⟨dk, 0, none⟩)] w fun e w' => e = .returned (.int .i64 (zdm n)) /\ w = w' := by
 have HB := zaa (ziz b n c A cv m w h)
 have mB := zlh
 have c0 : w.cell? ⟨dk, 0, none⟩ = some (.iface 23 (.pointer (some ⟨b, 0, none⟩))) := zab hk 0 (by rw [Array.getElem?_append_left (by simp)]; rfl)
 have k1 : IntKind.i64.wrap ((n : Int) - 12) = (n : Int) - 12 := by rw [IntKind.wrap_i64]; omega
 have k2 : IntKind.i64.wrap (((n : Int) - 12).tdiv 3) = ((n : Int) - 12).tdiv 3 := by
  have h1 : -12 <= ((n : Int) - 12).tdiv 3 /\ ((n : Int) - 12).tdiv 3 <= 1000 := by
   by_cases h0 : (0 : Int) <= (n : Int) - 12
   . rw [Int.tdiv_eq_ediv_of_nonneg h0]; omega
   . have e : (n : Int) - 12 = -(12 - (n : Int)) := by omega
     rw [e, Int.neg_tdiv, Int.tdiv_eq_ediv_of_nonneg (by omega)]; omega
  rw [IntKind.wrap_i64]; omega
 clear h hk
 go_enter Tryz.func57, Tryz.ntmps57
 go_wp2_with (go_at_call 237; refine HB.out.mono ?_; rintro e w' ⟨rfl, rfl⟩)
 go_ret
 exact ⟨rfl, rfl⟩
def opDelete : ByteArray := ⟨#[100, 101, 108, 101, 116, 101]⟩
def opPut : ByteArray := ⟨#[112, 117, 116]⟩
def zkt (ok : Nat -> Prop) (w w' : World) (t x : Nat) (T' : Tree) (ds : List Nat) (write done : Bool) (stamp : Int) : Prop :=
 ∃ rp' ds', TxAt w' t ⟨x, rp', T'.keys, write, done, stamp + 1⟩ /\ TreeV (up ok w.heap.size) w' T' rp' ds' /\ ds'.Nodup /\ ∀ y ∈ ds', y ∈ ds \/ w.heap.size <= y
theorem zto {ok : Nat -> Prop} {B B' : Nat} (h : B <= B') : ∀ z, up ok B' z -> up ok B z := fun _ hz => hz.imp id fun h' => Nat.le_trans h h'
set_option maxHeartbeats 1600000 in
theorem znu {ok : Nat -> Prop} (t x : Nat) (rp : Value) (T : Tree) (ds : List Nat) (write done : Bool) (stamp : Int) (s : DbS) (k : Str) (w : World) (hT : TxAt w t ⟨x, rp, T.keys, write, done, stamp⟩) (hD : DbAt w x s)
   (hV : TreeV ok w T rp ds) (hnd : ds.Nodup) (hR : TR T) (hp : T.pairs.length <= 150) (hk : k.size <= 9223372036854775807) (hs0 : 0 <= stamp) (hs1 : stamp <= 1000000000) :
   Calls Tryz.prog 23 #[.pointer (some ⟨t, 0, none⟩), .string k] w fun e w' => ∃ v, e = .returned v /\ AnsV w' w.heap.size v opDelete (zbe s.poi done true write k) /\ DbAt w' x s /\
    (zbe s.poi done true write k ≠ 0 -> TxAt w' t ⟨x, rp, T.keys, write, done, stamp⟩ /\ Only (· = x) w w') /\ (zbe s.poi done true write k = 0 -> zkt ok w w' t x (T.delete k) ds write done stamp) /\ Only (fun y => y = t \/ y = x) w w' := by
 have t0 : w.cell? ⟨t, 0, none⟩ = some (.pointer (some ⟨x, 0, none⟩)) := zab hT 0 rfl
 have htx : t ≠ x := Blk.ne_ hT hD (by decide)
 obtain ⟨q, rfl⟩ := hV.ptr
 have HL := zaa (zce hD rfl)
 have HT := zaa hT
 have HV := zaa (fun W (ho : Only (· = x) w W) => hV.at1 hD (zet (by decide) (by decide) (by decide)) ho)
 have HXL := zaa hD.lt
 have HRT := zaa hR
 have HP := zaa hp
 have HND := zaa hnd
 clear hT hD hV hR hp hnd
 have e1 : IntKind.i64.wrap (stamp + 1) = stamp + 1 := by rw [IntKind.wrap_i64]; omega
 obtain ⟨c, hc⟩ : ∃ c, c = zbe s.poi done true write k := ⟨_, rfl⟩
 rw [<- hc]
 have HC := zaa hc
 clear hc
 by_cases h0 : c = 0
 . subst h0
   go_enter_defers Tryz.func23, Tryz.ntmps23
   go_wp2_with (first
    | (go_at_call 51; go_loud (
       refine HL.out.mono ?_; rintro e w1 ⟨rfl, hb1, ho1, hs1⟩
       have hT1 := HT.out.only ho1 htx
       have k0 : w1.cell? ⟨t, 0, none⟩ = some (.pointer (some ⟨x, 0, none⟩)) := zab hT1 0 rfl
       have HM := zaa (zdb t x _ s 1 opDelete k true w1.heap.size (w1.alloc (.cells #[.string k] 9)) (hT1.alloc _) (hb1.alloc _) rfl (zab (Blk.new w1 9 #[.string k]) 0 rfl) hk)
       rw [<- HC.out] at HM
       have k1 := fun o => zaj o (zab hT1 1 rfl)
       have k2 := fun o => zaj o (zab hT1 2 rfl)
       have HG := zaa (znt T (.pointer q) ds k (w1.alloc (.cells #[.string k] 9)) ((HV.out w1 ho1).below ((Below.refl _ _).alloc (Nat.le_refl _) _) (fun _ h => h)) HND.out HRT.out HP.out)
       unfold za0 at HG
       have HT1 := zaa hT1
       have HB1 := zaa hb1
       have HO1 := zaa ho1
       have HS1 := zaa hs1
       clear hT1 hb1 ho1 hs1))
    | (go_at_call 54; go_loud (
       unfold opDelete at HM
       refine HM.out.mono ?_; rintro e w' ⟨v, rfl, ha⟩
       obtain ⟨rfl, rfl⟩ : v = .nilIface /\ w1.alloc (.cells #[.string k] 9) = w' := by
        rcases ha.2 with h | h
        . exact ⟨h.2.1, h.2.2⟩
        . exact absurd rfl h.1
       clear ha))
    | (go_at_call 55; go_loud (
       refine HG.out.mono ?_; rintro e w2 ⟨rp', ds', rfl, hv2, hnd2, hsub2, hb2⟩
       obtain ⟨q', rfl⟩ := hv2.ptr
       unfold za0
       have hT2 := (HT1.out.alloc (.cells #[.string k] 9)).below hb2 (HT1.out.alloc _).lt
       have m1 : w2.cell? ⟨t, 1, none⟩ = some (.pointer q) := zab hT2 1 rfl
       have m2 : w2.cell? ⟨t, 2, none⟩ = some (.int .i64 T.keys) := zab hT2 2 rfl
       have m5 : w2.cell? ⟨t, 5, none⟩ = some (.int .i64 stamp) := zab hT2 5 rfl
       have z1 : w2.frozen? ⟨t, 1, none⟩ = false := hT2.frozen 1
       have z2 : w2.frozen? ⟨t, 2, none⟩ = false := hT2.frozen 2
       have z5 : w2.frozen? ⟨t, 5, none⟩ = false := hT2.frozen 5
       have HT2 := zaa hT2
       have HV2 := zaa hv2
       have HB2 := zaa hb2
       clear hT2 hv2 hb2)))
   obtain ⟨W3, hW3⟩ : ∃ W3, W3 = ((w2.setCell ⟨t, 1, none⟩ (.pointer q')).setCell ⟨t, 2, none⟩ (.int .i64 (T.delete k).keys)).setCell ⟨t, 5, none⟩ (.int .i64 (stamp + 1)) := ⟨_, rfl⟩
   rw [<- hW3]
   have hO3 : Only (· = t) w2 W3 := by rw [hW3]; exact ((Only.set1 _ _ _ _).set2 _ _).set2 _ _
   have hT3 : TxAt W3 t ⟨x, .pointer q', (T.delete k).keys, write, done, stamp + 1⟩ := by rw [hW3]; exact ((Blk.set_ HT2.out 1 _).set_ 2 _).set_ 5 _
   have hD2 : Blk w2 x 91 (zbw s 1) := (HB1.out.alloc _).below HB2.out (HB1.out.alloc _).lt
   have hD3 : Blk W3 x 91 (zbw s 1) := hD2.only hO3 (fun e => htx e.symm)
   have hV3 : TreeV (up ok (w1.alloc (.cells #[.string k] 9)).heap.size) W3 (T.delete k) (.pointer q') ds' := HV2.out.at1 HT2.out (zet (by decide) (by decide) (by decide)) hO3
   refine leaves_cons (f := 52) (args := #[.pointer (some ⟨x, 0, none⟩)]) (by simp) (by simp [go_sem]) ?_
   refine (zbd .returning hD3 rfl).mono ?_
   rintro e u' w4 ⟨rfl, rfl, hb4, ho4, hs4⟩
   have hz1 : (w1.alloc (.cells #[.string k] 9)).heap.size = w1.heap.size + 1 := World.size_alloc _ _
   have hs1 := HS1.out
   refine ⟨.nilIface, by simp [results, Tryz.results23, go_sem], .nilIface, rfl, .inl ⟨rfl, rfl⟩, hb4, fun h => absurd rfl h, fun _ => ⟨.pointer q', ds', Blk.only hT3 ho4 htx, ?_, hnd2, ?_⟩, ?_⟩
   . exact (hV3.at1 hD3 (zet (by decide) (by decide) (by decide)) ho4).move (fun _ _ => rfl) (zto (by omega))
   . intro y hy
     rcases hsub2 y hy with h | h
     . exact .inl h
     . exact .inr (by omega)
   . exact ((((HO1.out.mono fun _ _ h => .inr h).alloc _).below HB2.out).trans (hO3.mono fun _ _ h => .inl h)).trans (ho4.mono fun _ _ h => .inr h)
 . go_enter_defers Tryz.func23, Tryz.ntmps23
   go_wp2_with (first
    | (go_at_call 51; go_loud (
       refine HL.out.mono ?_; rintro e w1 ⟨rfl, hb1, ho1, hs1⟩
       have hT1 := HT.out.only ho1 htx
       have k0 : w1.cell? ⟨t, 0, none⟩ = some (.pointer (some ⟨x, 0, none⟩)) := zab hT1 0 rfl
       have HM := zaa (zdb t x _ s 1 opDelete k true w1.heap.size (w1.alloc (.cells #[.string k] 9)) (hT1.alloc _) (hb1.alloc _) rfl (zab (Blk.new w1 9 #[.string k]) 0 rfl) hk)
       rw [<- HC.out] at HM
       have HT1 := zaa hT1
       have HB1 := zaa hb1
       have HO1 := zaa ho1
       have HS1 := zaa hs1
       clear hT1 hb1 ho1 hs1))
    | (go_at_call 54; go_loud (
       unfold opDelete at HM
       refine HM.out.mono ?_; rintro e w2 ⟨v, rfl, ha⟩
       have hbl := ha.1
       rcases ha.2 with h | ⟨-, f, rfl, hf, hff⟩
       . exact absurd h.1 h0
       unfold zag)))
   have hD2 : Blk w2 x 91 (zbw s 1) := (HB1.out.alloc _).below hbl (HB1.out.alloc _).lt
   refine leaves_cons (f := 52) (args := #[.pointer (some ⟨x, 0, none⟩)]) (by simp) (by simp [go_sem]) ?_
   refine (zbd .returning hD2 rfl).mono ?_
   rintro e u' w4 ⟨rfl, rfl, hb4, ho4, hs4⟩
   have hOx : Only (· = x) w w4 := ((HO1.out.alloc _).below hbl).trans ho4
   refine ⟨zag f, by unfold zag; simp [results, Tryz.results23, go_sem], zag f, rfl, .inr ⟨h0, f, rfl, ?_, ?_⟩, hb4, fun _ => ⟨Blk.only ((HT1.out.alloc _).below hbl (HT1.out.alloc _).lt) ho4 htx, hOx⟩, fun h => absurd h h0, hOx.mono fun _ _ h => .inr h⟩
   . have hx1 : x < w1.heap.size := HB1.out.lt
     refine Blk.only hf ho4 (fun e => ?_)
     simp at hff
     omega
   . have := HS1.out; simp at hff; omega
set_option maxHeartbeats 3200000 in
theorem zuf {ok : Nat -> Prop} (t x : Nat) (rp : Value) (T : Tree) (ds : List Nat) (write done : Bool) (stamp : Int) (s : DbS) (k v : Str) (w : World) (hT : TxAt w t ⟨x, rp, T.keys, write, done, stamp⟩) (hD : DbAt w x s)
   (hV : TreeV ok w T rp ds) (hnd : ds.Nodup) (hR : TR T) (hp : T.pairs.length <= 150) (h1 : zck k) (h2 : zdi v) (hs0 : 0 <= stamp) (hs1 : stamp <= 1000000000) (hm : zbe s.poi done true write k = 0)
   (b n c : Nat) (hd : Hd) (A : Option Addr) (cv : Value) (m : Nums) (hdk : Blk w s.dk 151 (#[dev b] ++ hd.cells)) (hdev : DkAt w b (.slice A n c) cv m) (hn : n <= 1000) (hroom : (T.get k).isSome = true \/ (T.keys : Int) < zdm n) :
   Calls Tryz.prog 24 #[.pointer (some ⟨t, 0, none⟩), .string k, .string v] w fun e w' => e = .returned .nilIface /\ DbAt w' x s /\ zkt ok w w' t x (T.put k v) ds write done stamp /\ Only (fun y => y = t \/ y = x) w w' := by
 have t0 : w.cell? ⟨t, 0, none⟩ = some (.pointer (some ⟨x, 0, none⟩)) := zab hT 0 rfl
 have htx : t ≠ x := Blk.ne_ hT hD (by decide)
 have hkb := h1
 unfold zck at hkb
 have hk : k.size <= 9223372036854775807 := by omega
 have hvb : v.size <= 12 := h2
 have hvi : ¬ (12 : Int) < (v.size : Int) := by omega
 obtain ⟨q, rfl⟩ := hV.ptr
 have hdx : s.dk ≠ x := Blk.ne_ hdk hD (by decide)
 have hbx : b ≠ x := Blk.ne_ hdev hD (by decide)
 have HL := zaa (zce hD rfl)
 have HT := zaa hT
 have HV := zaa (fun W (ho : Only (· = x) w W) => hV.at1 hD (zet (by decide) (by decide) (by decide)) ho)
 have HXL := zaa hD.lt
 have HRT := zaa hR
 have HP := zaa hp
 have HND := zaa hnd
 have HM0 := zaa hm
 have HDK := zaa hdk
 have HDEV := zaa hdev
 have HRM := zaa hroom
 have H1 := zaa h1
 have H2 := zaa h2
 clear hT hD hV hR hp hnd hm hdk hdev hroom hkb h1 h2
 have e1 : IntKind.i64.wrap (stamp + 1) = stamp + 1 := by rw [IntKind.wrap_i64]; omega
 go_enter_defers Tryz.func24, Tryz.ntmps24
 go_upto_region 9 with (first
  | (go_at_call 51; go_loud (
     refine HL.out.mono ?_; rintro e w1 ⟨rfl, hb1, ho1, hs1⟩
     have hT1 := HT.out.only ho1 htx
     have k0 : w1.cell? ⟨t, 0, none⟩ = some (.pointer (some ⟨x, 0, none⟩)) := zab hT1 0 rfl
     have HM := zaa (zdb t x _ s 1 opPut k true w1.heap.size (w1.alloc (.cells #[.string k] 9)) (hT1.alloc _) (hb1.alloc _) rfl (zab (Blk.new w1 9 #[.string k]) 0 rfl) hk)
     rw [HM0.out] at HM
     have k1 := fun o => zaj o (zab hT1 1 rfl)
     have k2 := fun o => zaj o (zab hT1 2 rfl)
     have HVA := zaa ((HV.out w1 ho1).below ((Below.refl _ _).alloc (Nat.le_refl _) (.cells #[.string k] 9)) (fun _ h => h))
     have HG := zaa (zfb T (.pointer q) ds k (w1.alloc (.cells #[.string k] 9)) HVA.out HRT.out HP.out)
     unfold za0 zgp at HG
     have HT1 := zaa hT1
     have HB1 := zaa hb1
     have HO1 := zaa ho1
     have HS1 := zaa hs1
     clear hT1 hb1 ho1 hs1))
  | (go_at_call 54; go_loud (
     unfold opPut at HM
     refine HM.out.mono ?_; rintro e w' ⟨v, rfl, ha⟩
     obtain ⟨rfl, rfl⟩ : v = .nilIface /\ w1.alloc (.cells #[.string k] 9) = w' := by
      rcases ha.2 with h | h
      . exact ⟨h.2.1, h.2.2⟩
      . exact absurd rfl h.1
     clear ha))
  | (go_at_call 56; go_loud (
     refine HG.out.mono ?_; rintro e w2 ⟨rfl, hb2⟩
     have HB2 := zaa hb2
     clear hb2)))
 have hbw2 : Below w1.heap.size w1 w2 := ((Below.refl _ _).alloc (Nat.le_refl _) _).trans (HB2.out.mono (by simp))
 have hT2 : TxAt w2 t ⟨x, .pointer q, T.keys, write, done, stamp⟩ := Blk.below HT1.out hbw2 (Blk.lt HT1.out)
 have hD2 : Blk w2 x 91 (zbw s 1) := HB1.out.below hbw2 HB1.out.lt
 have hV2 : TreeV ok w2 T (.pointer q) ds := HVA.out.below HB2.out (fun _ h => h)
 have hdk2 : Blk w2 s.dk 151 (#[dev b] ++ hd.cells) := (HDK.out.only HO1.out hdx).below hbw2 (HDK.out.only HO1.out hdx).lt
 have hdev2 : DkAt w2 b (.slice A n c) cv m := Blk.below (Blk.only HDEV.out HO1.out hbx) hbw2 (Blk.only HDEV.out HO1.out hbx).lt
 have m0 : w2.cell? ⟨t, 0, none⟩ = some (.pointer (some ⟨x, 0, none⟩)) := zab hT2 0 rfl
 have m1 : w2.cell? ⟨t, 1, none⟩ = some (.pointer q) := zab hT2 1 rfl
 have m2 : w2.cell? ⟨t, 2, none⟩ = some (.int .i64 T.keys) := zab hT2 2 rfl
 have m3 : w2.cell? ⟨x, 2, none⟩ = some (.pointer (some ⟨s.dk, 0, none⟩)) := zab hD2 2 rfl
 have RM := zaa (fun nq => zmm s.dk b n c hd A cv m (w2.drewN nq) (show Blk (w2.drewN nq) _ _ _ from hdk2) (show DkAt (w2.drewN nq) _ _ _ _ from hdev2) hn)
 have HT2 := zaa hT2
 have HD2 := zaa hD2
 have HV2 := zaa hV2
 clear hT2 hD2 hV2 hdk2 hdev2 hbw2 k1 k2 k0
 obtain ⟨th, hth⟩ : ∃ th, th = (T.get k).isSome := ⟨_, rfl⟩
 rw [<- hth]
 have HTH := zaa hth
 clear hth
 go_cut [60] from 43 to 60 (fun s60 wx => s60 = .bool false /\ ∃ nq, wx = w2.drewN nq)
 case first =>
  cases th with
  | true =>
    go_quiet (fail)
    go_wp2
    go_meet
    exact ⟨rfl, _, rfl⟩
  | false =>
    have hge : ¬ zdm n <= (T.keys : Int) := by
     rcases HRM.out with h | h
     . rw [<- HTH.out] at h; cases h
     . omega
    go_quiet (first | (go_at_call 57; exact zcm (RM.out _)))
    go_wp2
    go_meet
    exact ⟨rfl, _, rfl⟩
 case rest =>
  obtain ⟨rfl, nq, rfl⟩ := hcut
  have PUT := zaa (zsr T (.pointer q) ds k v (w2.drewN nq) (HV2.out.below (zam (Below.refl _ _) nq) (fun _ h => h)) HND.out HRT.out HP.out H1.out H2.out)
  unfold za0 at PUT
  go_wp2_with (go_at_call 58; go_loud (
   refine PUT.out.mono ?_; rintro e w3 ⟨rp', ds', rfl, hv3, hnd3, hsub3, hb3⟩
   obtain ⟨q', rfl⟩ := hv3.ptr
   unfold za0
   have hb3' : Below w2.heap.size w2 w3 := (zam (Below.refl _ _) nq).trans hb3
   have hT3 : TxAt w3 t ⟨x, .pointer q, T.keys, write, done, stamp⟩ := Blk.below HT2.out hb3' (Blk.lt HT2.out)
   have n1 : w3.cell? ⟨t, 1, none⟩ = some (.pointer q) := zab hT3 1 rfl
   have n2 : w3.cell? ⟨t, 2, none⟩ = some (.int .i64 T.keys) := zab hT3 2 rfl
   have n5 : w3.cell? ⟨t, 5, none⟩ = some (.int .i64 stamp) := zab hT3 5 rfl
   have z1 : w3.frozen? ⟨t, 1, none⟩ = false := hT3.frozen 1
   have z2 : w3.frozen? ⟨t, 2, none⟩ = false := hT3.frozen 2
   have z5 : w3.frozen? ⟨t, 5, none⟩ = false := hT3.frozen 5
   have HT3 := zaa hT3
   have HV3 := zaa hv3
   have HB3 := zaa hb3'
   clear hT3 hv3 hb3 hb3'))
  obtain ⟨W4, hW4⟩ : ∃ W4, W4 = ((w3.setCell ⟨t, 1, none⟩ (.pointer q')).setCell ⟨t, 2, none⟩ (.int .i64 (T.put k v).keys)).setCell ⟨t, 5, none⟩ (.int .i64 (stamp + 1)) := ⟨_, rfl⟩
  rw [<- hW4]
  have hO4 : Only (· = t) w3 W4 := by rw [hW4]; exact ((Only.set1 _ _ _ _).set2 _ _).set2 _ _
  have hT4 : TxAt W4 t ⟨x, .pointer q', (T.put k v).keys, write, done, stamp + 1⟩ := by rw [hW4]; exact ((Blk.set_ HT3.out 1 _).set_ 2 _).set_ 5 _
  have hD3 : Blk w3 x 91 (zbw s 1) := HD2.out.below HB3.out HD2.out.lt
  have hD4 : Blk W4 x 91 (zbw s 1) := hD3.only hO4 (fun e => htx e.symm)
  have hV4 : TreeV (up ok w2.heap.size) W4 (T.put k v) (.pointer q') ds' := HV3.out.at1 HT3.out (zet (by decide) (by decide) (by decide)) hO4
  refine leaves_cons (f := 52) (args := #[.pointer (some ⟨x, 0, none⟩)]) (by simp) (by simp [go_sem]) ?_
  refine (zbd .returning hD4 rfl).mono ?_
  rintro e u' w5 ⟨rfl, rfl, hb5, ho5, hs5⟩
  have hz2 : w1.heap.size + 1 <= w2.heap.size := by have := HB2.out.size; simpa using this
  have hs1 := HS1.out
  refine ⟨.nilIface, by simp [results, Tryz.results24, go_sem], rfl, hb5, ⟨.pointer q', ds', Blk.only hT4 ho5 htx, ?_, hnd3, ?_⟩, ?_⟩
  . exact (hV4.at1 hD4 (zet (by decide) (by decide) (by decide)) ho5).move (fun _ _ => rfl) (zto (by omega))
  . intro y hy
    rcases hsub3 y hy with h | h
    . exact .inl h
    . have h : w2.heap.size <= y := h
      exact .inr (by omega)
  . exact (((((HO1.out.mono fun _ _ h => .inr h).alloc _).below HB2.out).below HB3.out).trans (hO4.mono fun _ _ h => .inl h)).trans (ho5.mono fun _ _ h => .inr h)
end Go.Proofs.YtemondlgcmpbbaaGreatDoor
