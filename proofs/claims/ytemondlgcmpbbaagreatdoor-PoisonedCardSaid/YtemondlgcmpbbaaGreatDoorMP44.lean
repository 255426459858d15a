/- Walks: shadowkeep.Poisoned. -/
import Derived.Test.YtemondlgcmpbbaaGreatDoorMP43
namespace Go.Proofs.YtemondlgcmpbbaaGreatDoor
open Go.RowKit
set_option maxRecDepth 100000
theorem z2a {c : Int} (hc : I64 c) (W : World) : Calls Tryz.prog 18 #[.int .i64 c, .int .i64 14] W fun e w' => e = .returned (.int .i64 (zdl c 14)) /\ W = w' := zg3 c 14 W hc (by omega) (by omega)
theorem z2b {c : Int} (hc : I64 c) (W : World) : Calls Tryz.prog 18 #[.int .i64 c, .int .i64 10] W fun e w' => e = .returned (.int .i64 (zdl c 10)) /\ W = w' := zg3 c 10 W hc (by omega) (by omega)
theorem zq4 {m : Nums} {K : Nat} {a b : Int} (h : m.sm K) : ({ m with bfrom := a, bto := b } : Nums).sm K := h
theorem z3e {w : World} {K b g base n rd : Nat} {cv : Value} {m : Nums} {bytes : List UInt8} {cache : List (Nat × List UInt8)} {ks : List Nat} (hr : RdAt w rd ks) (h : Dk w K b g base n cv m bytes cache) (hy : dfp b g cv rd) : False := by
 rcases hy with e | e | e
 . exact hr.ne_blk h.at_ e
 . exact hr.ne_blk h.blk e
 . obtain ⟨A, c, rfl, _, _, hrow, _⟩ := zan h.own
   obtain ⟨_, _, _, cur, hb, _⟩ := hrow rd e.symm
   exact hr.ne_blk hb rfl
set_option maxHeartbeats 4000000 in
theorem zq5 (a b c tt : Int) (A : Option Addr) (kn kc : Nat) (zs : List Int) (w : World) (ha : I64 a) (hb : I64 b) (hc : I64 c) (ht : I64 tt) (hk : IntsAt w A kn kc zs) (hgl : Glob w) :
   Calls Tryz.prog 10 #[.int .i64 a, .int .i64 b, .int .i64 c, .int .i64 tt, .slice A kn kc] w fun e w' => e = .returned (.bool true) /\ Below w.heap.size w w' := by
 have HBE := zaa (zuz 150 a w (by omega) ha)
 have HP1 := zaa (zwu hb)
 have HP2 := zaa (z2a ht)
 have HP3 := zaa (zwu hc)
 have HP4 := zaa (z2b (zth ht))
 have hw64 := z0f ht
 obtain ⟨p, hp⟩ : ∃ p, p = zdl b 25 := ⟨_, rfl⟩
 obtain ⟨q, hq⟩ : ∃ q, q = zdl tt 14 := ⟨_, rfl⟩
 obtain ⟨p3, hp3⟩ : ∃ p3, p3 = zdl c 25 := ⟨_, rfl⟩
 obtain ⟨q4, hq4⟩ : ∃ q4, q4 = zdl (Int.tdiv tt 64) 10 := ⟨_, rfl⟩
 have HLT := zaa (show p < 25 /\ q < 14 /\ p3 < 25 /\ q4 < 10 from ⟨hp ▸ zfj b 25 (by omega), hq ▸ zfj tt 14 (by omega), hp3 ▸ zfj c 25 (by omega), hq4 ▸ zfj _ 10 (by omega)⟩)
 rw [<- hp] at HP1
 rw [<- hq] at HP2
 rw [<- hp3] at HP3
 rw [<- hq4, <- hw64] at HP4
 have wr1 : IntKind.i64.wrap (1 + (p : Int)) = ((1 + p : Nat) : Int) := by rw [IntKind.wrap_i64]; have := HLT.out; omega
 have wr3 : IntKind.i64.wrap (1 + (p3 : Int)) = 1 + (p3 : Int) := by rw [IntKind.wrap_i64]; have := HLT.out; omega
 have HBI := zaa hb
 have HCI := zaa hc
 have HKK := zaa hk
 have HGL := zaa hgl
 have HN0 := zaa hgl.pos
 clear hp hq hp3 hq4 hb hc ht hk ha hgl hw64
 go_enter Tryz.func10, Tryz.ntmps10
 go_wp2_with (first
  | (go_at_call 28; go_loud (
     refine HBE.out.mono ?_; rintro e w1 ⟨d, x, v1, K, T, r, rfl, hK, hs1, hg1, -, hf1, hrow1, hb1, hD1⟩
     have HFW := zaa (z0a A kn kc zs w1 (HKK.out.below hb1))
     have HS1 := zaa hs1
     have HG1 := zaa hg1
     have HR1 := zaa hrow1
     have HB1 := zaa hb1
     have HD1 := zaa hD1
     have HK0 := zaa hK
     clear hK hs1 hg1 hrow1 hb1 hD1 hf1))
  | (go_at_call 35; go_loud (
     refine HFW.out.mono ?_; rintro e w2 ⟨A2, k2, c2, rfl, hown2, hb2⟩
     have HWR := zaa (zg4 b (1 + p) HBI.out (by have := HLT.out; omega) (HS1.out.below hb2) HG1.out (by decide))
     have HOW2 := zaa hown2
     have HK2 := zaa (KpP.of_below (N := w.heap.size) hb2 HS1.out.size)
     clear hown2 hb2))
  | (go_at_call 18; go_loud (first
     | ((with_reducible refine (HPB.out _).mono ?_); rintro e w' ⟨rfl, rfl⟩)
     | ((with_reducible refine (HP1.out _).mono ?_); rintro e w' ⟨rfl, rfl⟩)))
  | (go_at_call 29; go_loud (
     refine HWR.out.mono ?_; rintro e w3 ⟨t, v3, T3, rp3, ds3, st3, rfl, hs3, ht3, hg3, hrow3, hk3, hj3⟩
     have HOF := zaa (znb d _ _ _ q 1 w3 hs3.disk.at_ (hs3.disk.num.small (by have := HK0.out; unfold zbf; omega)) ⟨by omega, by have := HLT.out; omega⟩ ⟨by omega, by omega⟩)
     have HPB := HP2
     have HCI3 := zaa (hj3 _ (zyd _ _ _) HD1.out.toC)
     have HS3 := zaa hs3
     have HT3 := zaa ht3
     have HG3 := zaa hg3
     have HR3 := zaa hrow3
     have HK3 := zaa hk3
     clear hs3 ht3 hg3 hrow3 hk3 hj3))
  | (go_at_call 40; go_loud (
     refine HOF.out.mono ?_; rintro e w4 ⟨rfl, hd4, ho4⟩
     have hk4 : KpP w.heap.size w3 w4 := KpP.of_only ho4 HS3.out.size (fun y e => e ▸ HS3.out.nb) fun X hX y cs hy e => Blk.ne_ hy HS3.out.disk.at_ (hX.ne (by decide) (by decide)) e
     have hgl4 : Glob w4 := HGL.out.below (((HB1.out.trans HK2.out.1).trans HK3.out.1).trans hk4.1)
     have HCM := zaa (zms (HS3.out.off (by omega) hd4 ho4 (zq4 HS3.out.disk.num)) (HT3.out.off HS3.out.disk.at_ ho4) HG3.out HG1.out (by omega) (by have := HK0.out; unfold zbf; omega) (by have := HG3.out.keys21; have := HG1.out.keys21; omega) (by have := HG3.out.dirty_le; omega) hgl4 HN0.out HD1.out HCI3.out)
     have HK4 := zaa hk4
     clear hd4 ho4 hk4 hgl4)))
 refine HCM.out.mono ?_
 rintro e w5 ⟨hk5, cv5, m5, bytes5, cache5, T5, hd5, hdk5, hl5, hg5, hp5, hgn5, (⟨rfl, ht5, hdb5, hrd5, htx5⟩ | ⟨f5, rfl, hf5, ht5, hdb5, htx5⟩)⟩
 have HBA := zaa (znb d _ _ m5 0 0 w5 hdk5.at_ (hdk5.num.small (by have := HK0.out; unfold zbf; omega)) ⟨by omega, by omega⟩ ⟨by omega, by omega⟩)
 have HGL5 := zaa (HGL.out.below ((((HB1.out.trans HK2.out.1).trans HK3.out.1).trans HK4.out.1).trans hk5.1))
 have HDK5 := zaa hdk5
 have HDB5 := zaa hdb5
 have HRD5 := zaa hrd5
 have HTX5 := zaa htx5
 have HKP5 := zaa hk5
 have HL5 := zaa hl5
 have HP5 := zaa hp5
 have HT5 := zaa ht5
 have HG5 := zaa hg5
 have HGN5 := zaa hgn5
 clear hdk5 hdb5 hrd5 htx5 hk5 hl5 hp5 ht5 hg5 hgn5
 go_wp2_with (first
  | (go_at_call 40; go_loud (
     (with_reducible refine HBA.out.mono ?_); rintro e w6 ⟨rfl, hd6, ho6⟩
     have hne : ∀ {y X cs}, Blk w5 y X cs -> X ≠ 103 -> ¬ y = d := fun hy hX e => Blk.ne_ hy HDK5.out.at_ hX e
     have hdb6 : DbAt w6 x ⟨r.dk, rp3, T3.keys, .pointer none, r.rd, false⟩ := Blk.only HDB5.out ho6 (hne HDB5.out (by decide))
     have htx6 : TxAt w6 t ⟨x, rp3, T3.keys, true, true, st3⟩ := Blk.only HTX5.out ho6 (hne HTX5.out (by decide))
     have hrd6 := HRD5.out.only ho6 (HRD5.out.ne_blk HDK5.out.at_)
     have HD6 := zaa (zq3 HDK5.out hd6 ho6 (zq4 HDK5.out.num))
     have HBG := zaa (znt x _ [] w6 hdb6 rfl hrd6 (fun k hk => by cases hk) (by simp))
     have HO6 := zaa ho6
     have HTX6 := zaa htx6
     have HDB6 := zaa hdb6
     have HRD6 := zaa hrd6
     clear hd6 ho6 hdb6 htx6 hrd6))
  | (go_at_call 30; go_loud (first
     | ((with_reducible refine HTG.out.mono ?_); rintro e w9 ⟨rfl, hb9⟩; have HB9 := zaa hb9; clear hb9)
     | ((with_reducible refine (zxr _).mono ?_); rintro e w' ⟨rfl, rfl⟩)))
  | (go_at_call 22; go_loud (
     (with_reducible refine HBG.out.mono ?_); rintro e w7 ⟨t7, rfl, -, hdb7, -, -, ho7⟩
     have htx7 : TxAt w7 t ⟨x, rp3, T3.keys, true, true, st3⟩ := Blk.only HTX6.out ho7 (fun e => e.elim (fun e => Blk.ne_ HTX6.out HDB6.out (by decide) e) fun e => HRD6.out.ne_blk HTX6.out e.symm)
     have HGT := zaa (ztj t x 5 _ _ ⟨#[102, 105, 114, 115, 116]⟩ w7 htx7 hdb7 rfl (by decide) rfl (by decide))
     have HD7 := zaa (HD6.out.only ho7 fun y hy e => e.elim (fun e => by subst e; exact HD6.out.ne HDB6.out (by decide) (by decide) (by decide) hy) fun e => by subst e; exact z3e HRD6.out HD6.out hy)
     have HO7 := zaa ho7
     clear hdb7 ho7 htx7))
  | (go_at_call 41; go_loud (
     (with_reducible refine HGT.out.mono ?_); rintro e w8 ⟨f8, rfl, hf8, hb8⟩
     have HTG := zaa (zgh f8 5 _ w8 hf8 (((HGL5.out.only HO6.out (fun e => by have := HS1.out.nb; have := HN0.out; omega)).only HO7.out (fun e => by have := HS1.out.nx; have := HS1.out.nrd; have := HN0.out; omega)).below hb8))
     unfold zau at HTG ⊢
     have HB8 := zaa hb8
     clear hf8 hb8)))
 have hbl : Below w7.heap.size w7 w9 := HB8.out.trans (HB9.out.mono HB8.out.size)
 have HD9 := zaa (HD7.out.below hbl)
 have HK9 := zaa ((((KpP.of_only (N := w.heap.size) HO6.out (Nat.le_trans HS1.out.size (Nat.le_trans HK2.out.1.size (Nat.le_trans HK3.out.1.size (Nat.le_trans HK4.out.1.size HKP5.out.1.size)))) (fun y e => e ▸ HS1.out.nb) fun X hX y cs hy e => Blk.ne_ hy HDK5.out.at_ (hX.ne (by decide) (by decide)) e)).trans (KpP.of_only (N := w.heap.size) HO7.out (Nat.le_trans HS1.out.size (Nat.le_trans HK2.out.1.size (Nat.le_trans HK3.out.1.size (Nat.le_trans HK4.out.1.size (Nat.le_trans HKP5.out.1.size HO6.out.size))))) (fun y e => e.elim (fun e => e ▸ HS1.out.nx) fun e => e ▸ HS1.out.nrd) fun X hX y cs hy e => e.elim (fun e => Blk.ne_ hy HDB6.out (hX.ne (by decide) (by decide)) e) fun e => HRD6.out.ne_blk hy e.symm)).trans (KpP.of_below hbl (Nat.le_trans HS1.out.size (Nat.le_trans HK2.out.1.size (Nat.le_trans HK3.out.1.size (Nat.le_trans HK4.out.1.size (Nat.le_trans HKP5.out.1.size (Nat.le_trans HO6.out.size HO7.out.size))))))))
 obtain ⟨okb, hok⟩ : ∃ okb, okb = true := ⟨_, rfl⟩
 have HTN := zaa (show ∀ rd, Torn 150 bytes5 cache5 rd -> (okb = false /\ DInv rd 150 r.hd T) \/ DInv rd 150 hd5 T5 from fun rd h => .inr (HT5.out rd h))
 rotate_left
 have HBA := zaa (znb d _ _ m5 0 0 w5 hdk5.at_ (hdk5.num.small (by have := HK0.out; unfold zbf; omega)) ⟨by omega, by omega⟩ ⟨by omega, by omega⟩)
 have HGL5 := zaa (HGL.out.below ((((HB1.out.trans HK2.out.1).trans HK3.out.1).trans HK4.out.1).trans hk5.1))
 have HDK5 := zaa hdk5
 have HDB5 := zaa hdb5
 have HTX5 := zaa htx5
 have HF5 := zaa hf5
 have HKP5 := zaa hk5
 have HL5 := zaa hl5
 have HP5 := zaa hp5
 have HT5 := zaa ht5
 have HG5 := zaa hg5
 have HGN5 := zaa hgn5
 clear hdk5 hdb5 htx5 hk5 hl5 hp5 ht5 hg5 hgn5 hf5
 unfold zau
 go_wp2_with (first
  | (go_at_call 40; go_loud (
     (with_reducible refine HBA.out.mono ?_); rintro e w6 ⟨rfl, hd6, ho6⟩
     have hne : ∀ {y X cs}, Blk w5 y X cs -> X ≠ 103 -> ¬ y = d := fun hy hX e => Blk.ne_ hy HDK5.out.at_ hX e
     have hdb6 : DbAt w6 x ⟨r.dk, r.rp, T.keys, .pointer none, r.rd, true⟩ := Blk.only HDB5.out ho6 (hne HDB5.out (by decide))
     have htx6 : TxAt w6 t ⟨x, rp3, T3.keys, true, true, st3⟩ := Blk.only HTX5.out ho6 (hne HTX5.out (by decide))
     have hgl6 := HGL5.out.only ho6 (fun e => by have := HS1.out.nb; have := HN0.out; omega)
     have HTA := zaa (zgh f5 8 _ w6 (Blk.only HF5.out ho6 (hne HF5.out (by decide))) hgl6)
     unfold zau at HTA
     have HD6 := zaa (zq3 HDK5.out hd6 ho6 (zq4 HDK5.out.num))
     have HO6 := zaa ho6
     have HTX6 := zaa htx6
     have HDB6 := zaa hdb6
     have HGL6 := zaa hgl6
     clear hd6 ho6 hdb6 htx6 hgl6))
  | (go_at_call 30; go_loud (first
     | ((with_reducible refine HTG.out.mono ?_); rintro e w9 ⟨rfl, hb9⟩; have HB9 := zaa (HB8.out.trans (hb9.mono HB8.out.size)); clear hb9)
     | ((with_reducible refine HTB.out.mono ?_); rintro e w71 ⟨rfl, hb71⟩
        have hb := HB7.out.trans (hb71.mono HB7.out.size)
        have HGT := zaa (ztj t x 7 _ _ ⟨#[102, 105, 114, 115, 116]⟩ w71 (show TxAt w71 t ⟨x, rp3, T3.keys, true, true, st3⟩ from Blk.below HTX6.out hb (Blk.lt HTX6.out)) (show DbAt w71 x ⟨r.dk, r.rp, T.keys, .pointer none, r.rd, true⟩ from Blk.below HDB6.out hb (Blk.lt HDB6.out)) rfl (by decide) rfl (by decide))
        have HB71 := zaa hb
        clear hb71 hb)
     | ((with_reducible refine HTA.out.mono ?_); rintro e w61 ⟨rfl, hb61⟩
        have HBG := zaa (zwv x _ w61 (show DbAt w61 x ⟨r.dk, r.rp, T.keys, .pointer none, r.rd, true⟩ from Blk.below HDB6.out hb61 (Blk.lt HDB6.out)) rfl)
        have HB61 := zaa hb61
        clear hb61)))
  | (go_at_call 22; go_loud (
     (with_reducible refine HBG.out.mono ?_); rintro e w7 ⟨f7, rfl, hf7, hb7⟩
     have hb := HB61.out.trans (hb7.mono HB61.out.size)
     have HTB := zaa (zgh f7 7 _ w7 hf7 (HGL6.out.below hb))
     unfold zau at HTB ⊢
     have HB7 := zaa hb
     clear hf7 hb7 hb))
  | (go_at_call 41; go_loud (
     (with_reducible refine HGT.out.mono ?_); rintro e w8 ⟨f8, rfl, hf8, hb8⟩
     have hb := HB71.out.trans (hb8.mono HB71.out.size)
     have HTG := zaa (zgh f8 7 _ w8 hf8 (HGL6.out.below hb))
     unfold zau at HTG ⊢
     have HB8 := zaa hb
     clear hf8 hb8 hb)))
 have HD9 := zaa (HD6.out.below HB9.out)
 have hz5 : w.heap.size <= w5.heap.size := Nat.le_trans HS1.out.size (Nat.le_trans HK2.out.1.size (Nat.le_trans HK3.out.1.size (Nat.le_trans HK4.out.1.size HKP5.out.1.size)))
 have HK9 := zaa ((KpP.of_only (N := w.heap.size) HO6.out hz5 (fun y e => e ▸ HS1.out.nb) fun X hX y cs hy e => Blk.ne_ hy HDK5.out.at_ (hX.ne (by decide) (by decide)) e).trans (KpP.of_below HB9.out (Nat.le_trans hz5 HO6.out.size)))
 obtain ⟨okb, hok⟩ : ∃ okb, okb = false := ⟨_, rfl⟩
 have HTN := zaa (show ∀ rd, Torn 150 bytes5 cache5 rd -> (okb = false /\ DInv rd 150 r.hd T) \/ DInv rd 150 hd5 T5 from fun rd h => (HT5.out rd h).imp (fun h => ⟨hok, h⟩) id)
 rotate_left
 all_goals
  have hk25 := ((HK3.out.trans HK4.out).trans HKP5.out)
  have HOW5 := zaa (ztg HOW2.out hk25)
  have HBB5 := zaa (((HB1.out.trans HK2.out.1)).trans hk25.1)
  have HR1' := zaa ((HR1.out.kp HK2.out).kp hk25)
  have HR3' := zaa ((HR3.out.kp HK4.out).kp HKP5.out)
  have hz5' := HBB5.out.size
  have HOP := zaa (zyj (N := w.heap.size) HD9.out ⟨by show m5.off < 0; rw [HL5.out.1]; exact HS1.out.calm.1, by show m5.calls + 0 + 0 <= m5.calls; omega⟩ (by omega) (HTN.out _ (Torn.full 150 bytes5 cache5)) HG1.out HG5.out ⟨by have := HS1.out.gen; omega, by have := HS1.out.gen; have := HGN5.out; omega⟩ (by have := HK0.out; unfold zbf; omega) (Nat.le_trans hz5' HK9.out.1.size) HS1.out.nb HS1.out.ng)
  clear hk25 hz5'
  refine HOP.out.mono ?_
  rintro e w07 ⟨x7, r7, T7, G7, rfl, hG7, hs7, hD7, hg7, hT7, hk7⟩
  have hk57 := HK9.out.trans hk7
  have HNW := zaa (zlg hs7 (by decide) hg7.tr hg7.pairs hg7.key8)
  have HR1'' := zaa (HR1'.out.kp hk57)
  have HR3'' := zaa (HR3'.out.kp hk57)
  obtain ⟨o, ho⟩ : ∃ o, o = decide (T7.pairs = T.pairs) := ⟨_, rfl⟩
  obtain ⟨nw, hnw⟩ : ∃ nw, nw = decide (T7.pairs = T3.pairs) := ⟨_, rfl⟩
  have hor : (okb = false /\ o = true) \/ nw = true := hT7.imp (fun ⟨h, e⟩ => ⟨h, by rw [ho, e]; simp⟩) fun e => by rw [hnw, e, HP5.out]; simp
  have HLL := zaa (show T7.pairs.length <= 1000 /\ T.pairs.length <= 1000 /\ T3.pairs.length <= 1000 by have := hg7.pairs; have := HG1.out.pairs; have := HG3.out.pairs; omega)
  have HO := zaa ho
  have HNO := zaa hnw
  have HD7 := zaa hD7
  have HG7 := zaa hg7
  have HGG7 := zaa hG7
  have HK57 := zaa hk57
  subst hok
  clear hT7 hs7 hk7 hk57 ho hnw hD7 hg7 hG7
  cases o <;> cases nw <;> first
   | (exfalso; simp at hor; done)
   | (go_wp2_with (first
       | (go_at_call 31; go_loud (
          refine HNW.out.mono ?_; rintro e w08 ⟨v8, rfl, hrow8, hs8, -, hk8⟩
          have HSM := zaa (zg5 v8 v1 T7.pairs T.pairs w08 hrow8 (HR1''.out.kp hk8) (by have := HLL.out; omega) (by have := HLL.out; omega))
          rw [<- HO.out] at HSM
          have HR8 := zaa hrow8
          have HS8 := zaa hs8
          have HK8 := zaa hk8
          clear hrow8 hs8 hk8))
       | (go_at_call 33; go_loud (first
          | (refine HSM2.out.mono ?_; rintro e w10 ⟨rfl, hb10⟩
             have hb810 := HB09.out.trans (hb10.mono HB09.out.size)
             have HWY := zaa (zg4 c (1 + p3) HCI.out (by have := HLT.out; omega) (HS8.out.below hb810) HG7.out (by decide))
             rw [show ((1 + p3 : Nat) : Int) = 1 + (p3 : Int) by omega] at HWY
             have HK10 := zaa (KpP.of_below (N := w.heap.size) hb810 HS8.out.size)
             clear hb10 hb810)
          | (refine HSM.out.mono ?_; rintro e w09 ⟨rfl, hb9⟩
             have hkb := KpP.of_below (N := w08.heap.size) hb9 (Nat.le_refl _)
             have HSM2 := zaa (zg5 v8 v3 T7.pairs T3.pairs w09 (HR8.out.kp hkb) ((HR3''.out.kp HK8.out).kp hkb) (by have := HLL.out; omega) (by have := HLL.out; omega))
             rw [<- HNO.out] at HSM2
             have HB09 := zaa hb9
             clear hb9 hkb)))
       | (go_at_call 18; go_loud (first
          | ((with_reducible refine (HPD.out _).mono ?_); rintro e w' ⟨rfl, rfl⟩)
          | ((with_reducible refine (HP3.out _).mono ?_); rintro e w' ⟨rfl, rfl⟩)))
       | (go_at_call 29; go_loud (
          (with_reducible refine HWY.out.mono ?_); rintro e w11 ⟨u, v11, T11, rp11, ds11, st11, rfl, hs11, ht11, hg11, hrow11, hk11, hj11⟩
          have HOF2 := zaa (z0c d _ _ _ q4 w11 hs11.disk.at_ (hs11.disk.num.small (by have := HK0.out; unfold zbf; omega)) ⟨by omega, by have := HLT.out; omega⟩)
          have HPD := HP4
          have HCI11 := zaa (hj11 _ (zyd _ _ _) HD7.out.toC)
          have HS11 := zaa hs11
          have HT11 := zaa ht11
          have HG11 := zaa hg11
          have HR11 := zaa hrow11
          have HK11 := zaa hk11
          clear hs11 ht11 hg11 hrow11 hk11 hj11))
       | (go_at_call 37; go_loud (
          (with_reducible refine HOF2.out.mono ?_); rintro e w12 ⟨rfl, hd12, ho12⟩
          have hk12 : KpP w.heap.size w11 w12 := KpP.of_only ho12 HS11.out.size (fun y e => e ▸ HS11.out.nb) fun X hX y cs hy e => Blk.ne_ hy HS11.out.disk.at_ (hX.ne (by decide) (by decide)) e
          have hk512 := ((((HK57.out.trans HK8.out).trans HK10.out).trans HK11.out).trans hk12)
          have hgl12 : Glob w12 := HGL.out.below (HBB5.out.trans hk512.1)
          have HCM2 := zaa (zms (HS11.out.off (by have := HGG7.out; omega) hd12 ho12 (z1z HS11.out.disk.num)) (HT11.out.off HS11.out.disk.at_ ho12) HG11.out HG7.out (by omega) (by have := HK0.out; unfold zbf; omega) (by have := HG11.out.keys21; have := HG7.out.keys21; omega) (by have := HG11.out.dirty_le; omega) hgl12 HN0.out HD7.out HCI11.out)
          have HK512 := zaa hk512
          have HK12 := zaa hk12
          clear hd12 ho12 hk12 hk512 hgl12)))
      refine HCM2.out.mono ?_
      rintro e w13 ⟨hk13, cv13, m13, bytes13, cache13, T13, hd13, hdk13, -, hg13, hp13, -, (⟨rfl, ht13, -, -, -⟩ | ⟨f13, rfl, -, ht13, -, -⟩)⟩
      obtain ⟨okc, hokc⟩ : ∃ okc, okc = true := ⟨_, rfl⟩
      have HTN2 := zaa (show ∀ rd, Torn 150 bytes13 cache13 rd -> (okc = false /\ DInv rd 150 r7.hd T7) \/ DInv rd 150 hd13 T13 from fun rd h => .inr (ht13 rd h))
      rotate_left
      obtain ⟨okc, hokc⟩ : ∃ okc, okc = false := ⟨_, rfl⟩
      unfold zau
      have HTN2 := zaa (show ∀ rd, Torn 150 bytes13 cache13 rd -> (okc = false /\ DInv rd 150 r7.hd T7) \/ DInv rd 150 hd13 T13 from fun rd h => (ht13 rd h).imp (fun h => ⟨hokc, h⟩) id)
      rotate_left
      all_goals
       have hk513 := HK512.out.trans hk13
       have HAF2 := zaa (zu5 (base' := w13.heap.size) hdk13 (by omega) (z0e (ztg HOW5.out hk513) (fun z hz => HKK.out.2.2.2.1 z (List.mem_of_mem_take hz))) (Nat.le_refl _))
       have HBB13 := zaa (HBB5.out.trans hk513.1)
       have HR8' := zaa ((((HR8.out.kp HK10.out).kp HK11.out).kp HK12.out).kp hk13)
       have HR11' := zaa ((HR11.out.kp HK12.out).kp hk13)
       have HG13 := zaa hg13
       have HP13 := zaa hp13
       clear hk13 hdk13 ht13 hk513 hg13 hp13
       go_wp2_with fail
       refine HAF2.out.mono ?_
       rintro e w14 ⟨b14, g14, bytes14, rfl, hd14, ht14, hb14, hg14, hB14⟩
       have hz13 := HBB13.out.size
       have HFN := zaa (zr8 (N := w.heap.size) hd14 Nums.new_calm (by omega) (HTN2.out _ ht14) HG7.out HG13.out HG7.out.key8 HG13.out.key8 (by decide) (Nat.le_trans hz13 hB14.size) (Nat.le_trans hz13 hb14) (Nat.le_trans hz13 hg14))
       have HK14 := zaa (KpP.of_below (N := w.heap.size) hB14 hz13)
       clear hd14 ht14 hb14 hg14 hB14 hz13
       go_wp2_with fail
       refine HFN.out.mono ?_
       rintro e w15 ⟨v15, T15, rfl, hrow15, hT15, hk15⟩
       have hg15 : Good V21 T15 := by rcases hT15 with ⟨_, rfl⟩ | rfl; exact HG7.out; exact HG13.out
       have hk1315 := HK14.out.trans hk15
       obtain ⟨o2, ho2⟩ : ∃ o2, o2 = decide (T15.pairs = T7.pairs) := ⟨_, rfl⟩
       obtain ⟨nw2, hnw2⟩ : ∃ nw2, nw2 = decide (T15.pairs = T11.pairs) := ⟨_, rfl⟩
       have hor2 : (okc = false /\ o2 = true) \/ nw2 = true := hT15.imp (fun ⟨h, e⟩ => ⟨h, by rw [ho2, e]; simp⟩) fun e => by rw [hnw2, e, HP13.out]; simp
       have hl15 := hg15.pairs
       have hl11 := HG11.out.pairs
       have HSM3 := zaa (zg5 v15 v8 T15.pairs T7.pairs w15 hrow15 (HR8'.out.kp hk1315) (by omega) (by have := HLL.out; omega))
       rw [<- ho2] at HSM3
       have HSM4 := zaa (fun w16 (hb : Below w15.heap.size w15 w16) => zg5 v15 v11 T15.pairs T11.pairs w16 (hrow15.kp (KpP.of_below hb (Nat.le_refl _))) ((HR11'.out.kp hk1315).kp (KpP.of_below hb (Nat.le_refl _))) (by omega) (by omega))
       rw [<- hnw2] at HSM4
       have HBB15 := zaa (HBB13.out.trans hk1315.1)
       subst hokc
       clear hT15 hg15 hrow15 hk15 hk1315 ho2 hnw2 hl15 hl11
       cases o2 <;> cases nw2 <;> first
        | (exfalso; simp at hor2; done)
        | (go_wp2_with (go_at_call 33; go_loud (first
            | (refine HSM5.out.mono ?_; rintro e w17 ⟨rfl, hb17⟩; have HB17 := zaa hb17; clear hb17)
            | (refine HSM3.out.mono ?_; rintro e w16 ⟨rfl, hb16⟩; have HSM5 := zaa (HSM4.out w16 hb16); have HB16 := zaa hb16; clear hb16)))
           go_ret
           have hz15 := HBB15.out.size
           exact ⟨rfl, (HBB15.out.trans (HB16.out.mono hz15)).trans (HB17.out.mono (Nat.le_trans hz15 HB16.out.size))⟩))
end Go.Proofs.YtemondlgcmpbbaaGreatDoor
