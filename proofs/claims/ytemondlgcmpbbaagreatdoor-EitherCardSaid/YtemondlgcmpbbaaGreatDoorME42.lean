/- Walks: shadowkeep.Either. -/
import Derived.Test.YtemondlgcmpbbaaGreatDoorME40
import Derived.Test.YtemondlgcmpbbaaGreatDoorME41
import Derived.Test.YtemondlgcmpbbaaGreatDoorME36
namespace Go.Proofs.YtemondlgcmpbbaaGreatDoor
open Go.RowKit
set_option maxRecDepth 100000
theorem zku {N base m c : Nat} {w w' : World} {A : Option Addr} {xs : List Int} (h : w.ownsRow base 3 1 (.slice A m c) m (icells xs)) (hk : KpP N w w') : w'.ownsRow base 3 1 (.slice A m c) m (icells xs) :=
 ⟨h.1, h.2.imp id fun ⟨g, cap, cur, e1, e2, e3, e4⟩ => ⟨g, cap, cur, e1, e2, hk.2 _ (.inr rfl) _ _ e3, e4⟩⟩
theorem zqn {base m c : Nat} {w : World} {A : Option Addr} {xs : List Int} (h : w.ownsRow base 3 1 (.slice A m c) m (icells xs)) (hx : ∀ z ∈ xs, I64 z) : IntsAt w A m c xs := by
 have hl : xs.length = m := by have := h.1; rw [zl7] at this; omega
 obtain ⟨A', c', e, h1, h2, hrow, hno⟩ := zag h
 injection e with e1 _ e3
 subst e1 e3
 refine ⟨hl, h1, h2, hx, fun h0 => ?_⟩
 cases A with
 | none => have := (hno rfl).1; omega
 | some a =>
   obtain ⟨_, hlt, e4, cur, hb, _, ht⟩ := hrow a.block rfl
   refine ⟨a.block, 0, e4, hlt, fun j z hz => ?_⟩
   refine zaa hb (0 + j) ?_
   have hj : j < m := by rw [<- hl]; exact (List.getElem?_eq_some_iff.1 hz).1
   have h3 : (icells xs)[j]? = some (.int .i64 z) := by unfold icells; rw [List.getElem?_map, hz]; rfl
   rw [<- ht, List.getElem?_take, if_pos (by omega)] at h3
   rw [Nat.zero_add, <- Array.getElem?_toList]
   exact h3
theorem zqo {z : Int} (h : I64 z) : I64 (Int.tdiv z 64) := by
 unfold I64 at *
 by_cases h0 : 0 <= z
 . rw [Int.tdiv_eq_ediv_of_nonneg h0]; omega
 . have h2 : Int.tdiv z 64 = -(Int.tdiv (-z) 64) := by rw [Int.neg_tdiv, Int.neg_neg]
   rw [h2, Int.tdiv_eq_ediv_of_nonneg (by omega)]
   omega
theorem zw8 {z : Int} (h : I64 z) : wrap64 (Int.tdiv z 64) = Int.tdiv z 64 := by
 have h2 := zqo h
 unfold I64 at h2
 unfold wrap64
 omega
theorem ztv {c : Int} (hc : I64 c) (W : World) : Calls Tryz.prog 18 #[.int .i64 c, .int .i64 25] W fun e w' => e = .returned (.int .i64 (pickN c 25)) /\ W = w' := zgc c 25 W hc (by omega) (by omega)
theorem ztw {c : Int} (hc : I64 c) (W : World) : Calls Tryz.prog 18 #[.int .i64 c, .int .i64 30] W fun e w' => e = .returned (.int .i64 (pickN c 30)) /\ W = w' := zgc c 30 W hc (by omega) (by omega)
theorem ztx {m : Nums} {K : Nat} {q : Int} (h : m.sm K) : ({ m with off := m.calls + q } : Nums).sm K := h
theorem zr6 {V : Str -> Prop} {N K b g base n : Nat} {cv : Value} {m : Nums} {bytes : List UInt8} {w : World} {T T' : Tree} {hd hd' : Hd} {okb : Bool} (hdk : Dk w K b g base n cv m bytes []) (hc : m.calm) (hn : 8 <= n /\ n <= 400) (hI : (okb = false /\ DInv (dread bytes []) n hd T) \/ DInv (dread bytes []) n hd' T') (hg : Good V T) (hg' : Good V T') (hgen : hd.gen <= 5 /\ hd'.gen <= 5) (hK : K + 200 < edge) (hN : N <= w.heap.size) (hb : N <= b) (hgN : N <= g) :
   Calls Tryz.prog 38 #[.pointer (some ⟨b, 0, none⟩)] w fun e w' => ∃ x r T3 G, e = .returned (.tuple #[.pointer (some ⟨x, 0, none⟩), .nilIface]) /\ G <= 5 /\ StoreR N w' (K + 150) b n x G (.pointer none) T3 r [] /\ DInv (dread r.bytes []) n r.hd T3 /\ Good V T3 /\ ((okb = false /\ T3 = T) \/ T3 = T') /\ KpP N w w' := by
 rcases hI with ⟨h0, hI⟩ | hI
 . refine (zkt hdk hc hn hI hg hK hN hb hgN).mono ?_
   rintro e w' ⟨x, r, rfl, hs, hby, hh, hk⟩
   exact ⟨x, r, T, _, rfl, hgen.1, hs, by rw [hby, hh]; exact hI, hg, .inl ⟨h0, rfl⟩, hk⟩
 . refine (zkt hdk hc hn hI hg' hK hN hb hgN).mono ?_
   rintro e w' ⟨x, r, rfl, hs, hby, hh, hk⟩
   exact ⟨x, r, T', _, rfl, hgen.2, hs, by rw [hby, hh]; exact hI, hg', .inr rfl, hk⟩
theorem zpf {V : Str -> Prop} {N K b g base n : Nat} {cv : Value} {m : Nums} {bytes : List UInt8} {w : World} {T T' : Tree} {hd hd' : Hd} {okb : Bool} (hdk : Dk w K b g base n cv m bytes []) (hc : m.calm) (hn : 8 <= n /\ n <= 400) (hI : (okb = false /\ DInv (dread bytes []) n hd T) \/ DInv (dread bytes []) n hd' T') (hg : Good V T) (hg' : Good V T') (h8 : ∀ e ∈ T.pairs, e.1.size <= 8) (h8' : ∀ e ∈ T'.pairs, e.1.size <= 8) (hK : K + 200 < edge) (hN : N <= w.heap.size) (hb : N <= b) (hgN : N <= g) :
   Calls Tryz.prog 36 #[.pointer (some ⟨b, 0, none⟩)] w fun e w' => ∃ v T3, e = .returned (.tuple #[v, .bool true]) /\ PRow w' v T3.pairs /\ ((okb = false /\ T3 = T) \/ T3 = T') /\ KpP N w w' := by
 rcases hI with ⟨h0, hI⟩ | hI
 . refine (zlt hdk hc hn hI hg h8 hK hN hb hgN).mono ?_
   rintro e w' ⟨v, x, r, rfl, hrow, hs, -, hk⟩
   exact ⟨v, T, rfl, hrow, .inl ⟨h0, rfl⟩, hk⟩
 . refine (zlt hdk hc hn hI hg' h8' hK hN hb hgN).mono ?_
   rintro e w' ⟨v, x, r, rfl, hrow, hs, -, hk⟩
   exact ⟨v, T', rfl, hrow, .inr rfl, hk⟩
set_option maxHeartbeats 4000000 in
theorem zr7 (a b c tt : Int) (A : Option Addr) (kn kc : Nat) (zs : List Int) (w : World) (ha : I64 a) (hb : I64 b) (hc : I64 c) (ht : I64 tt) (hk : IntsAt w A kn kc zs) (hgl : Glob w) :
   Calls Tryz.prog 8 #[.int .i64 a, .int .i64 b, .int .i64 c, .int .i64 tt, .slice A kn kc] w fun e w' => e = .returned (.bool true) /\ Below w.heap.size w w' := by
 have HBE := hide (zr0 150 a w (by omega) ha)
 have HP1 := hide (ztv hb)
 have HP2 := hide (ztw ht)
 have HP3 := hide (ztv hc)
 have HP4 := hide (ztw (zqo ht))
 have hw64 := zw8 ht
 obtain ⟨p, hp⟩ : ∃ p, p = pickN b 25 := ⟨_, rfl⟩
 obtain ⟨q, hq⟩ : ∃ q, q = pickN tt 30 := ⟨_, rfl⟩
 obtain ⟨p3, hp3⟩ : ∃ p3, p3 = pickN c 25 := ⟨_, rfl⟩
 obtain ⟨q4, hq4⟩ : ∃ q4, q4 = pickN (Int.tdiv tt 64) 30 := ⟨_, rfl⟩
 have HLT := hide (show p < 25 /\ q < 30 /\ p3 < 25 /\ q4 < 30 from ⟨hp ▸ zdt b 25 (by omega), hq ▸ zdt tt 30 (by omega), hp3 ▸ zdt c 25 (by omega), hq4 ▸ zdt _ 30 (by omega)⟩)
 rw [<- hp] at HP1
 rw [<- hq] at HP2
 rw [<- hp3] at HP3
 rw [<- hq4, <- hw64] at HP4
 have wr1 : IntKind.i64.wrap (1 + (p : Int)) = ((1 + p : Nat) : Int) := by rw [IntKind.wrap_i64]; have := HLT.out; omega
 have wr3 : IntKind.i64.wrap (1 + (p3 : Int)) = 1 + (p3 : Int) := by rw [IntKind.wrap_i64]; have := HLT.out; omega
 have HBI := hide hb
 have HCI := hide hc
 have HKK := hide hk
 have HGL := hide hgl
 have HN0 := hide hgl.pos
 clear hp hq hp3 hq4 hb hc ht hk ha hgl hw64
 go_enter Tryz.func8, Tryz.ntmps8
 go_wp2_with (first
   | (go_at_call 28; go_loud (
      refine HBE.out.mono ?_; rintro e w1 ⟨d, x, v1, K, T, r, rfl, hK, hs1, hg1, -, hf1, hrow1, hb1, hD1⟩
      have HFW := hide (zw5 A kn kc zs w1 (HKK.out.below hb1))
      have HS1 := hide hs1
      have HG1 := hide hg1
      have HR1 := hide hrow1
      have HB1 := hide hb1
      have HD1 := hide hD1
      have HK0 := hide hK
      clear hK hs1 hg1 hrow1 hb1 hD1 hf1))
   | (go_at_call 35; go_loud (
      refine HFW.out.mono ?_; rintro e w2 ⟨A2, k2, c2, rfl, hown2, hb2⟩
      have HWR := hide (ze3 b (1 + p) HBI.out (by have := HLT.out; omega) (HS1.out.below hb2) HG1.out (by decide))
      have HOW2 := hide hown2
      have HK2 := hide (KpP.of_below (N := w.heap.size) hb2 HS1.out.size)
      clear hown2 hb2))
   | (go_at_call 18; go_loud (first
      | ((with_reducible refine (HPB.out _).mono ?_); rintro e w' ⟨rfl, rfl⟩)
      | ((with_reducible refine (HP1.out _).mono ?_); rintro e w' ⟨rfl, rfl⟩)))
   | (go_at_call 29; go_loud (
      refine HWR.out.mono ?_; rintro e w3 ⟨t, v3, T3, rp3, ds3, st3, rfl, hs3, ht3, hg3, hrow3, hk3, hj3⟩
      have HOF := hide (zqm d _ _ _ q w3 hs3.disk.at_ (hs3.disk.num.small (by have := HK0.out; unfold edge; omega)) ⟨by omega, by have := HLT.out; omega⟩)
      have HPB := HP2
      have HCI3 := hide (hj3 _ (cloC _ _ _) HD1.out.toC)
      have HS3 := hide hs3
      have HT3 := hide ht3
      have HG3 := hide hg3
      have HR3 := hide hrow3
      have HK3 := hide hk3
      clear hs3 ht3 hg3 hrow3 hk3 hj3))
   | (go_at_call 37; go_loud (
      refine HOF.out.mono ?_; rintro e w4 ⟨rfl, hd4, ho4⟩
      have hk4 : KpP w.heap.size w3 w4 := KpP.of_only ho4 HS3.out.size (fun y e => e ▸ HS3.out.nb) fun X hX y cs hy e => Blk.ne_ hy HS3.out.disk.at_ (hX.ne (by decide) (by decide)) e
      have hgl4 : Glob w4 := HGL.out.below (((HB1.out.trans HK2.out.1).trans HK3.out.1).trans hk4.1)
      have HCM := hide (zkb (HS3.out.off (by omega) hd4 ho4 (ztx HS3.out.disk.num)) (HT3.out.off HS3.out.disk.at_ ho4) HG3.out HG1.out (by omega) (by have := HK0.out; unfold edge; omega) (by have := HG3.out.keys21; have := HG1.out.keys21; omega) (by have := HG3.out.dirty_le; omega) hgl4 HN0.out HD1.out HCI3.out)
      have HK4 := hide hk4
      clear hd4 ho4 hk4 hgl4)))
 refine HCM.out.mono ?_
 rintro e w5 ⟨hk5, cv5, m5, bytes5, cache5, T5, hd5, hdk5, -, hg5, hp5, hgn5, (⟨rfl, ht5, -, -, -⟩ | ⟨f5, rfl, -, ht5, -, -⟩)⟩
 obtain ⟨okb, hok⟩ : ∃ okb, okb = true := ⟨_, rfl⟩
 have HTN := hide (show ∀ rd, Torn 150 bytes5 cache5 rd -> (okb = false /\ DInv rd 150 r.hd T) \/ DInv rd 150 hd5 T5 from fun rd h => .inr (ht5 rd h))
 rotate_left
 obtain ⟨okb, hok⟩ : ∃ okb, okb = false := ⟨_, rfl⟩
 unfold faultV
 have HTN := hide (show ∀ rd, Torn 150 bytes5 cache5 rd -> (okb = false /\ DInv rd 150 r.hd T) \/ DInv rd 150 hd5 T5 from fun rd h => (ht5 rd h).imp (fun h => ⟨hok, h⟩) id)
 rotate_left
 all_goals
   have hk25 := ((HK3.out.trans HK4.out).trans hk5)
   have hIK := zqn (zku HOW2.out hk25) (fun z hz => HKK.out.2.2.2.1 z (List.mem_of_mem_take hz))
   have HAF := hide (zkc (base' := w5.heap.size) hdk5 (by omega) hIK (Nat.le_refl _))
   have HOW5 := hide (zku HOW2.out hk25)
   have HBB5 := hide (((HB1.out.trans HK2.out.1)).trans hk25.1)
   have HR1' := hide ((HR1.out.kp HK2.out).kp hk25)
   have HR3' := hide ((HR3.out.kp HK4.out).kp hk5)
   have HG5 := hide hg5
   have HP5 := hide hp5
   have HGN5 := hide hgn5
   clear hk5 hdk5 ht5 hk25 hIK hg5 hp5 hgn5
   go_wp2_with fail
   refine HAF.out.mono ?_
   rintro e w6 ⟨b6, g6, bytes6, rfl, hd6, ht6, hb6, hg6, hB6⟩
   have hz5 := HBB5.out.size
   have HOP := hide (zr6 (N := w.heap.size) hd6 Nums.new_calm (by omega) (HTN.out _ ht6) HG1.out HG5.out ⟨by have := HS1.out.gen; omega, by have := HS1.out.gen; have := HGN5.out; omega⟩ (by decide) (Nat.le_trans hz5 hB6.size) (Nat.le_trans hz5 hb6) (Nat.le_trans hz5 hg6))
   have HK6 := hide (KpP.of_below (N := w.heap.size) hB6 hz5)
   clear hd6 ht6 hb6 hg6 hB6 hz5
   go_wp2_with fail
   refine HOP.out.mono ?_
   rintro e w7 ⟨x7, r7, T7, G7, rfl, hG7, hs7, hD7, hg7, hT7, hk7⟩
   have hk57 := HK6.out.trans hk7
   have HNW := hide (zi1 hs7 (by decide) hg7.tr hg7.pairs hg7.key8)
   have HR1'' := hide (HR1'.out.kp hk57)
   have HR3'' := hide (HR3'.out.kp hk57)
   obtain ⟨o, ho⟩ : ∃ o, o = decide (T7.pairs = T.pairs) := ⟨_, rfl⟩
   obtain ⟨nw, hnw⟩ : ∃ nw, nw = decide (T7.pairs = T3.pairs) := ⟨_, rfl⟩
   have hor : (okb = false /\ o = true) \/ nw = true := hT7.imp (fun ⟨h, e⟩ => ⟨h, by rw [ho, e]; simp⟩) fun e => by rw [hnw, e, HP5.out]; simp
   have HLL := hide (show T7.pairs.length <= 1000 /\ T.pairs.length <= 1000 /\ T3.pairs.length <= 1000 by have := hg7.pairs; have := HG1.out.pairs; have := HG3.out.pairs; omega)
   have HO := hide ho
   have HNO := hide hnw
   have HD7 := hide hD7
   have HG7 := hide hg7
   have HGG7 := hide hG7
   have HK57 := hide hk57
   subst hok
   clear hT7 hs7 hk7 hk57 ho hnw hD7 hg7 hG7
   cases o <;> cases nw <;> first
     | (exfalso; simp at hor; done)
     | (go_wp2_with (first
         | (go_at_call 31; go_loud (
            refine HNW.out.mono ?_; rintro e w8 ⟨v8, rfl, hrow8, hs8, -, hk8⟩
            have HSM := hide (ze4 v8 v1 T7.pairs T.pairs w8 hrow8 (HR1''.out.kp hk8) (by have := HLL.out; omega) (by have := HLL.out; omega))
            rw [<- HO.out] at HSM
            have HR8 := hide hrow8
            have HS8 := hide hs8
            have HK8 := hide hk8
            clear hrow8 hs8 hk8))
         | (go_at_call 33; go_loud (first
            | (refine HSM2.out.mono ?_; rintro e w10 ⟨rfl, hb10⟩
               have hb810 := HB9.out.trans (hb10.mono HB9.out.size)
               have HWY := hide (ze3 c (1 + p3) HCI.out (by have := HLT.out; omega) (HS8.out.below hb810) HG7.out (by decide))
               rw [show ((1 + p3 : Nat) : Int) = 1 + (p3 : Int) by omega] at HWY
               have HK10 := hide (KpP.of_below (N := w.heap.size) hb810 HS8.out.size)
               clear hb10 hb810)
            | (refine HSM.out.mono ?_; rintro e w9 ⟨rfl, hb9⟩
               have hkb := KpP.of_below (N := w8.heap.size) hb9 (Nat.le_refl _)
               have HSM2 := hide (ze4 v8 v3 T7.pairs T3.pairs w9 (HR8.out.kp hkb) ((HR3''.out.kp HK8.out).kp hkb) (by have := HLL.out; omega) (by have := HLL.out; omega))
               rw [<- HNO.out] at HSM2
               have HB9 := hide hb9
               clear hb9 hkb)))
         | (go_at_call 18; go_loud (first
            | ((with_reducible refine (HPD.out _).mono ?_); rintro e w' ⟨rfl, rfl⟩)
            | ((with_reducible refine (HP3.out _).mono ?_); rintro e w' ⟨rfl, rfl⟩)))
         | (go_at_call 29; go_loud (
            (with_reducible refine HWY.out.mono ?_); rintro e w11 ⟨u, v11, T11, rp11, ds11, st11, rfl, hs11, ht11, hg11, hrow11, hk11, hj11⟩
            have HOF2 := hide (zqm b6 _ _ _ q4 w11 hs11.disk.at_ (hs11.disk.num.small (by decide)) ⟨by omega, by have := HLT.out; omega⟩)
            have HPD := HP4
            have HCI11 := hide (hj11 _ (cloC _ _ _) HD7.out.toC)
            have HS11 := hide hs11
            have HT11 := hide ht11
            have HG11 := hide hg11
            have HR11 := hide hrow11
            have HK11 := hide hk11
            clear hs11 ht11 hg11 hrow11 hk11 hj11))
         | (go_at_call 37; go_loud (
            (with_reducible refine HOF2.out.mono ?_); rintro e w12 ⟨rfl, hd12, ho12⟩
            have hk12 : KpP w.heap.size w11 w12 := KpP.of_only ho12 HS11.out.size (fun y e => e ▸ HS11.out.nb) fun X hX y cs hy e => Blk.ne_ hy HS11.out.disk.at_ (hX.ne (by decide) (by decide)) e
            have hk512 := ((((HK57.out.trans HK8.out).trans HK10.out).trans HK11.out).trans hk12)
            have hgl12 : Glob w12 := HGL.out.below (HBB5.out.trans hk512.1)
            have HCM2 := hide (zkb (HS11.out.off (by have := HGG7.out; omega) hd12 ho12 (ztx HS11.out.disk.num)) (HT11.out.off HS11.out.disk.at_ ho12) HG11.out HG7.out (by omega) (by decide) (by have := HG11.out.keys21; have := HG7.out.keys21; omega) (by have := HG11.out.dirty_le; omega) hgl12 HN0.out HD7.out HCI11.out)
            have HK512 := hide hk512
            have HK12 := hide hk12
            clear hd12 ho12 hk12 hk512 hgl12)))
        refine HCM2.out.mono ?_
        rintro e w13 ⟨hk13, cv13, m13, bytes13, cache13, T13, hd13, hdk13, -, hg13, hp13, -, (⟨rfl, ht13, -, -, -⟩ | ⟨f13, rfl, -, ht13, -, -⟩)⟩
        obtain ⟨okc, hokc⟩ : ∃ okc, okc = true := ⟨_, rfl⟩
        have HTN2 := hide (show ∀ rd, Torn 150 bytes13 cache13 rd -> (okc = false /\ DInv rd 150 r7.hd T7) \/ DInv rd 150 hd13 T13 from fun rd h => .inr (ht13 rd h))
        rotate_left
        obtain ⟨okc, hokc⟩ : ∃ okc, okc = false := ⟨_, rfl⟩
        unfold faultV
        have HTN2 := hide (show ∀ rd, Torn 150 bytes13 cache13 rd -> (okc = false /\ DInv rd 150 r7.hd T7) \/ DInv rd 150 hd13 T13 from fun rd h => (ht13 rd h).imp (fun h => ⟨hokc, h⟩) id)
        rotate_left
        all_goals
          have hk513 := HK512.out.trans hk13
          have HAF2 := hide (zkc (base' := w13.heap.size) hdk13 (by omega) (zqn (zku HOW5.out hk513) (fun z hz => HKK.out.2.2.2.1 z (List.mem_of_mem_take hz))) (Nat.le_refl _))
          have HBB13 := hide (HBB5.out.trans hk513.1)
          have HR8' := hide ((((HR8.out.kp HK10.out).kp HK11.out).kp HK12.out).kp hk13)
          have HR11' := hide ((HR11.out.kp HK12.out).kp hk13)
          have HG13 := hide hg13
          have HP13 := hide hp13
          clear hk13 hdk13 ht13 hk513 hg13 hp13
          go_wp2_with fail
          refine HAF2.out.mono ?_
          rintro e w14 ⟨b14, g14, bytes14, rfl, hd14, ht14, hb14, hg14, hB14⟩
          have hz13 := HBB13.out.size
          have HFN := hide (zpf (N := w.heap.size) hd14 Nums.new_calm (by omega) (HTN2.out _ ht14) HG7.out HG13.out HG7.out.key8 HG13.out.key8 (by decide) (Nat.le_trans hz13 hB14.size) (Nat.le_trans hz13 hb14) (Nat.le_trans hz13 hg14))
          have HK14 := hide (KpP.of_below (N := w.heap.size) hB14 hz13)
          clear hd14 ht14 hb14 hg14 hB14 hz13
          go_wp2_with fail
          refine HFN.out.mono ?_
          rintro e w15 ⟨v15, T15, rfl, hrow15, hT15, hk15⟩
          have hg15 : Good V21 T15 := by rcases hT15 with ⟨_, rfl⟩ | rfl; exact HG7.out; exact HG13.out
          have hk1315 := HK14.out.trans hk15
          obtain ⟨o2, ho2⟩ : ∃ o2, o2 = decide (T15.pairs = T7.pairs) := ⟨_, rfl⟩
          obtain ⟨nw2, hnw2⟩ : ∃ nw2, nw2 = decide (T15.pairs = T11.pairs) := ⟨_, rfl⟩
          have hor2 : (okc = false /\ o2 = true) \/ nw2 = true := hT15.imp (fun ⟨h, e⟩ => ⟨h, by rw [ho2, e]; simp⟩) fun e => by rw [hnw2, e, HP13.out]; simp
          have hl15 := hg15.pairs
          have hl11 := HG11.out.pairs
          have HSM3 := hide (ze4 v15 v8 T15.pairs T7.pairs w15 hrow15 (HR8'.out.kp hk1315) (by omega) (by have := HLL.out; omega))
          rw [<- ho2] at HSM3
          have HSM4 := hide (fun w16 (hb : Below w15.heap.size w15 w16) => ze4 v15 v11 T15.pairs T11.pairs w16 (hrow15.kp (KpP.of_below hb (Nat.le_refl _))) ((HR11'.out.kp hk1315).kp (KpP.of_below hb (Nat.le_refl _))) (by omega) (by omega))
          rw [<- hnw2] at HSM4
          have HBB15 := hide (HBB13.out.trans hk1315.1)
          subst hokc
          clear hT15 hg15 hrow15 hk15 hk1315 ho2 hnw2 hl15 hl11
          cases o2 <;> cases nw2 <;> first
            | (exfalso; simp at hor2; done)
            | (go_wp2_with (go_at_call 33; go_loud (first
                | (refine HSM5.out.mono ?_; rintro e w17 ⟨rfl, hb17⟩; have HB17 := hide hb17; clear hb17)
                | (refine HSM3.out.mono ?_; rintro e w16 ⟨rfl, hb16⟩; have HSM5 := hide (HSM4.out w16 hb16); have HB16 := hide hb16; clear hb16)))
               go_ret
               have hz15 := HBB15.out.size
               exact ⟨rfl, (HBB15.out.trans (HB16.out.mono hz15)).trans (HB17.out.mono (Nat.le_trans hz15 HB16.out.size))⟩))
end Go.Proofs.YtemondlgcmpbbaaGreatDoor
