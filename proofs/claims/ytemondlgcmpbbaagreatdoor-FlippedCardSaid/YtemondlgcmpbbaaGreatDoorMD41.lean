/- Fp Fpl: merged. -/
import Derived.Test.YtemondlgcmpbbaaGreatDoorMD40
import Derived.Test.YtemondlgcmpbbaaGreatDoorMD39
import Derived.Test.YtemondlgcmpbbaaGreatDoorMD35
import Derived.Test.YtemondlgcmpbbaaGreatDoorMD36
import Derived.ChangeMaps5
namespace Go.Proofs.YtemondlgcmpbbaaGreatDoor
open Go.RowKit
set_option maxRecDepth 100000
theorem ns_blks {Q : (h : Nat) -> Tr h -> Prop} : ∀ {h : Nat} {t : Tr h}, NS Q h t -> NS (fun h' t' => Q h' t' /\ Tr.blk h' t' ∈ blks h t) h t
 | 0, t, hq => ⟨hq, by simp [blks, Tr.blk]⟩
 | h + 1, t, hq => ⟨⟨hq.1, by simp [blks, Tr.blk]⟩, fun e he => (ns_blks (hq.2 e he)).mono fun _ _ q => ⟨q.1, List.mem_append_left _ (List.mem_flatMap.2 ⟨e, he, q.2⟩)⟩⟩
theorem flip_open {V V' : Str -> Prop} {N K b g base n : Nat} {cv : Value} {m : Nums} {bytes bytes' : List UInt8} {h1 h2 : Hd} {T1 T2 : Tree} {w : World} (h : Dk w K b g base n cv m bytes' []) (hc : m.calm) (hn : 8 <= n /\ n <= 400) (hl : ∀ i, i < n -> (dread bytes [] i).length = 128) (hg1 : Good V T1) (hg2 : Good V' T2) (hp1 : T1.pairs ≠ []) (hp2 : T2.pairs ≠ [])
   (hD1 : DInv (dread bytes []) n h1 T1) (hh : headsN (dread bytes []) = [h1, h2]) (hr2 : (T2.root = none /\ h2.blk = 0) \/ ∃ h t, T2.root = some ⟨h, t⟩ /\ Tr.blk h t = h2.blk /\ Tr.gen h t = h2.rgen /\ 0 < h2.blk) (hon2 : TN (LQ1 (dread bytes []) n h2.gen) T2) (hnd2 : T2.blks.Nodup)
   {k j : Nat} {y : UInt8} (hkn : k < n) (hj : j < 128) (hy : ∀ h : j < (dread bytes [] k).length, y ≠ (dread bytes [] k)[j]) (ho : ∀ i, i < n -> i ≠ k -> dread bytes' [] i = dread bytes [] i) (hk : dread bytes' [] k = (dread bytes [] k).set j y) (hK : K + 400 < edge) (hN : N <= w.heap.size) (hb : N <= b) (hgN : N <= g) :
   Calls Tryz.prog 38 #[.pointer (some ⟨b, 0, none⟩)] w fun e w' => (∃ x r G T K', e = .returned (.tuple #[.pointer (some ⟨x, 0, none⟩), .nilIface]) /\ (T = T1 \/ T = T2) /\ StoreR N w' K' b n x G (.pointer none) T r [] /\ KpP N w w') \/ ∃ f, e = .returned (.tuple #[.pointer none, faultV f]) /\ FaultAt w' f sOpen 9 /\ KpP N w w' := by
 have root : ∀ {S : Tree} {hd : Hd}, S.pairs ≠ [] -> ((S.root = none /\ hd.blk = 0) \/ ∃ h t, S.root = some ⟨h, t⟩ /\ Tr.blk h t = hd.blk /\ Tr.gen h t = hd.rgen /\ 0 < hd.blk) -> ∃ h t, S.root = some ⟨h, t⟩ /\ Tr.blk h t = hd.blk /\ Tr.gen h t = hd.rgen /\ 0 < hd.blk := fun hne hr => by
   rcases hr with ⟨hr, _⟩ | hr
   . exact absurd (by unfold Tree.pairs; rw [hr]) hne
   . exact hr
 rcases dinv_flip hD1 hh (by omega) hr2 hon2 hnd2 hl hkn hj hy ho hk with hD | hD | ⟨hh', hq1, hq2⟩
 . refine (sr_open h hc hn hD hg1 (by omega) hN hb hgN).mono ?_
   rintro e w' ⟨x, r, rfl, hs, -, -, hk⟩
   exact .inl ⟨x, r, _, _, _, rfl, .inl rfl, hs, hk⟩
 . refine (sr_open h hc hn hD hg2 (by omega) hN hb hgN).mono ?_
   rintro e w' ⟨x, r, rfl, hs, -, -, hk⟩
   exact .inl ⟨x, r, _, _, _, rfl, .inr rfl, hs, hk⟩
 . obtain ⟨a1, t1, e1, b1, c1, d1⟩ := root hp1 hD1.root
   obtain ⟨a2, t2, e2, b2, c2, d2⟩ := root hp2 hr2
   cases hgd : good (dread bytes' []) a1 t1 with
   | true =>
     have hD : DInv (dread bytes' []) n h1 T1 := ⟨⟨_, hh'⟩, hD1.root, fun h t hr => by
       rw [e1] at hr
       injection hr with hr
       injection hr with hr1 hr2
       subst hr1
       rw [<- eq_of_heq hr2]
       exact good_one (hq1 _ _ e1) hgd, hD1.nd⟩
     refine (sr_open h hc hn hD hg1 (by omega) hN hb hgN).mono ?_
     rintro e w' ⟨x, r, rfl, hs, -, -, hk⟩
     exact .inl ⟨x, r, _, _, _, rfl, .inl rfl, hs, hk⟩
   | false =>
     refine (sr_open_two h hc hn hh' e1 b1 c1 d1 hq1 hD1.nd hg1 hgd e2 b2 c2 d2 hq2 hnd2 hg2 hK hN hb hgN).mono ?_
     rintro e w' (⟨x, r, rfl, hs, hk⟩ | ⟨f, rfl, hf, hk⟩)
     . exact .inl ⟨x, r, _, _, _, rfl, .inr rfl, hs, hk⟩
     . exact .inr ⟨f, rfl, hf, hk⟩
set_option maxHeartbeats 4000000 in
theorem flipped_any (a b bit : Int) (w : World) (ha : I64 a) (hb : I64 b) (hbit : I64 bit) (hgl : Glob w) :
   Calls Tryz.prog 9 #[.int .i64 a, .int .i64 b, .int .i64 bit] w fun e w' => e = .returned (.bool true) /\ Below w.heap.size w w' := by
 have HBE := hide (begunD_any 100 a w (by omega) ha)
 have HPK := hide (fun W => pickk_fn b 20 W hb (by omega) (by omega))
 have hpl := pickN_lt b 20 (by omega)
 obtain ⟨p, hp⟩ : ∃ p, p = pickN b 20 := ⟨_, rfl⟩
 rw [<- hp] at HPK hpl
 have HPE := hide hp
 have hp1 : IntKind.i64.wrap (1 + (p : Int)) = ((1 + p : Nat) : Int) := by rw [IntKind.wrap_i64]; omega
 have HBI := hide hb
 have HBT := hide hbit
 have HPL := hide hpl
 have HGL := hide hgl
 clear hp hb hpl hgl ha hbit
 go_enter Tryz.func9, Tryz.ntmps9
 go_wp2_with (first
   | (go_at_call 28; go_loud (
      refine HBE.out.mono ?_; rintro e w1 ⟨d, x, v1, K, T, r, rfl, hK, hs1, hg1, -, hf1, hrow1, hb1, hD1⟩
      have HWR := hide (writing_chgJ b (1 + p) HBI.out (by have := HPL.out; omega) hs1 hg1 (by decide))
      have HG1 := hide hg1
      have HF1 := hide hf1
      have HR1 := hide hrow1
      have HB1 := hide hb1
      have HD1 := hide hD1
      have HK0 := hide hK
      clear hK hs1 hg1 hrow1 hb1 hD1 hf1))
   | (go_at_call 18; go_loud (refine (HPK.out _).mono ?_; rintro e w' ⟨rfl, rfl⟩))
   | (go_at_call 29; go_loud (
      refine HWR.out.mono ?_; rintro e w2 ⟨t, v2, T2, rp2, ds2, st2, rfl, hs2, ht2, hg2, hrow2, hk2, hj2⟩
      have HCM := hide (sr_commitF hs2 ht2 hg2 HG1.out (by omega) (by omega) (by have := HK0.out; unfold edge; omega) (by have := hg2.keys21; have := HG1.out.keys21; omega) (by have := hg2.dirty_le; omega) HD1.out.heads (hj2 _ (cloC _ _ _) HD1.out.toC))
      have HF2 := hide (hj2 _ cloF HF1.out)
      have HR2 := hide hrow2
      have HK2 := hide hk2
      clear hs2 ht2 hk2 hg2 hrow2 hj2))
   | (go_at_call 26; go_loud (
      refine HCM.out.mono ?_; rintro e w3 ⟨rfl, ⟨T3, r3, hs3, hg3, -, hpe3, -, hD3, hh3, hsame3⟩, hk3⟩
      have HTU := hide (turned_any (base' := w3.heap.size) bit HBT.out hs3.disk (by omega) (Nat.le_refl _))
      have HL3 := hide (fun i hi => hs3.disk.dlen (i := i) hi)
      have HS3 := hide hs3
      have HG3 := hide hg3
      have HPE3 := hide hpe3
      have HD3 := hide hD3
      have HH3 := hide hh3
      have HSM3 := hide hsame3
      have HK3 := hide hk3
      clear hs3 hg3 hpe3 hD3 hh3 hsame3 hk3))
   | (go_at_call 39; go_loud (
      refine HTU.out.mono ?_; rintro e w4 ⟨b4, g4, bytes4, k4, j4, y4, rfl, hd4, hk4, hj4, ho4, hy4, hs4, hb4, hg4, hB4⟩
      have hz3 : w.heap.size <= w3.heap.size := Nat.le_trans HB1.out.size (Nat.le_trans HK2.out.1.size HK3.out.1.size)
      have hon : TN (LQ1 (dread r3.bytes []) 100 r.hd.gen) T := fun h t hr => (ns_blks (HD1.out.on h t hr)).mono fun h' t' hq => hq.1.next (Nat.le_refl _) (HSM3.out _ hq.1.1.1 hq.1.1.2 (by unfold Tree.blks; rw [hr]; exact hq.2))
      have HOP := hide (flip_open (N := w.heap.size) hd4 Nums.new_calm (by omega) HL3.out HG3.out HG1.out (by rw [HPE3.out]; exact HF2.out.ne) HF1.out.ne HD3.out HH3.out HD1.out.root hon HD1.out.nd hk4 hj4 hy4 ho4 hs4 (by decide) (Nat.le_trans hz3 hB4.size) (Nat.le_trans hz3 hb4) (Nat.le_trans hz3 hg4))
      have HB4 := hide hB4
      have HZ3 := hide hz3
      clear hd4 hk4 hj4 ho4 hy4 hs4 hb4 hg4 hB4 hz3 hon)))
 refine HOP.out.mono ?_
 rintro e w5 (⟨x5, r5, G5, T5, K5, rfl, hT5, hs5, hk5⟩ | ⟨f5, rfl, hf5, hk5⟩)
 . have hg5 : Good V21 T5 := hT5.elim (fun e => e ▸ HG3.out) (fun e => e ▸ HG1.out)
   have hp5 : T5.pairs = T.pairs \/ T5.pairs = T2.pairs := hT5.elim (fun e => .inr (e ▸ HPE3.out)) (fun e => .inl (by rw [e]))
   have HNW := hide (know_any hs5 (by decide) hg5.tr hg5.pairs hg5.key8)
   have HR1' := hide ((((HR1.out.kp HK2.out).kp HK3.out).kp (KpP.of_below (N := w3.heap.size) HB4.out (Nat.le_refl _))).kp hk5)
   have HR2' := hide (((HR2.out.kp HK3.out).kp (KpP.of_below (N := w3.heap.size) HB4.out (Nat.le_refl _))).kp hk5)
   have HBB := hide ((((HB1.out.trans HK2.out.1).trans HK3.out.1).trans (HB4.out.mono HZ3.out)).trans hk5.1)
   have hl5 := hg5.pairs
   have hl1 := HG1.out.pairs
   have hl2 := HG3.out.pairs
   rw [HPE3.out] at hl2
   obtain ⟨o, ho⟩ : ∃ o, o = decide (T5.pairs = T.pairs) := ⟨_, rfl⟩
   obtain ⟨nw, hnw⟩ : ∃ nw, nw = decide (T5.pairs = T2.pairs) := ⟨_, rfl⟩
   have hor : o = true \/ nw = true := hp5.elim (fun h => .inl (by rw [ho, h]; simp)) (fun h => .inr (by rw [hnw, h]; simp))
   have HLL := hide (And.intro hl5 (And.intro hl1 hl2))
   have HO := hide ho
   have HNO := hide hnw
   clear hg5 hp5 hT5 hs5 hk5 ho hnw hl5 hl1 hl2
   cases o <;> cases nw <;> first
     | (exfalso; simp at hor; done)
     | (go_wp2_with (first
         | (go_at_call 31; go_loud (
            refine HNW.out.mono ?_; rintro e w6 ⟨v6, rfl, hrow6, hs6, -, hk6⟩
            have HSM := hide (same_any v6 v1 T5.pairs T.pairs w6 hrow6 (HR1'.out.kp hk6) (by have := HLL.out; omega) (by have := HLL.out; omega))
            rw [<- HO.out] at HSM
            have HR6 := hide hrow6
            have HK6 := hide hk6
            clear hrow6 hs6 hk6))
         | (go_at_call 33; go_loud (first
            | (refine HSM2.out.mono ?_; rintro e w8 ⟨rfl, hb8⟩; have HB8 := hide hb8; clear hb8)
            | (refine HSM.out.mono ?_; rintro e w7 ⟨rfl, hb7⟩
               have hkb := KpP.of_below (N := w6.heap.size) hb7 (Nat.le_refl _)
               have HSM2 := hide (same_any v6 v2 T5.pairs T2.pairs w7 (HR6.out.kp hkb) ((HR2'.out.kp HK6.out).kp hkb) (by have := HLL.out; omega) (by have := HLL.out; omega))
               rw [<- HNO.out] at HSM2
               have HB7 := hide hb7
               clear hb7 hkb))))
        go_ret
        have hz6 := (HBB.out.trans HK6.out.1).size
        exact ⟨rfl, ((HBB.out.trans HK6.out.1).trans (HB7.out.mono hz6)).trans (HB8.out.mono (Nat.le_trans hz6 HB7.out.size))⟩)
 . have HBB := hide ((((HB1.out.trans HK2.out.1).trans HK3.out.1).trans (HB4.out.mono HZ3.out)).trans hk5.1)
   have HTD := hide (told_fault f5 9 _ w5 hf5 (HGL.out.below HBB.out))
   clear hf5 hk5
   unfold faultV at *
   go_wp2_with (go_at_call 30; go_loud (refine HTD.out.mono ?_; rintro e w6 ⟨rfl, hb6⟩; have HB6 := hide hb6; clear hb6))
   go_ret
   exact ⟨rfl, HBB.out.trans (HB6.out.mono HBB.out.size)⟩
end Go.Proofs.YtemondlgcmpbbaaGreatDoor
namespace Go.Proofs.YtemondlgcmpbbaaGreatDoor
open Go.ChangeShapes Go.WideShapes Go.RowKit Go.Deep
set_option maxRecDepth 100000
theorem flipped_lifted (os : Os) (started : os.Started) (H : Type) (enc : TypeId × Value -> H) :
   ReturnsInHanded {} Tryz.checked os 9 .any (fun w args => (Rows.flippedSpec.pre enc Tryz.prog Tryz.f9 [] false w args /\ laidMetH Tryz.prog tLaid w) /\ sizedMet enc Tryz.prog Tryz.f9 (OpenSpec.ofChange Rows.flippedSpec) false w args)
     (Rows.flippedSpec.post enc Tryz.prog Tryz.f9 false true false false) := by
 refine returnsInHanded_of_change_and (C := Tryz.checked) (X := fun w _ => laidMetH Tryz.prog tLaid w) (fun _ _ _ hh h => h.of_heap hh) tOwn started (by kernel_rfl) Tryz.func9
   (ChangeSpec.witness_at (enc := enc) (C := Tryz.checked) (os := os) (X := fun w _ => laidMetH Tryz.prog tLaid w) false (laidWorld os) #[.int .i64 0, .int .i64 0, .int .i64 0] 8 rfl (by kernel_rfl) (by kernel_rfl) (by kernel_rfl) (by kernel_rfl) (by kernel_rfl) (laidWorld_met os _)) ?_
 intro W base args ds gs before hval0 hW _ _ hL _
 have hW' := hW
 obtain ⟨p, q, hA0, hV, rfl, _, _⟩ := hW
 have hA : DataW.TrodAll enc Tryz.prog W 0 (fun _ => true) true Tryz.f9.params.toList args.toList ds p := hA0
 rw [Tryz.params9] at hA
 obtain ⟨v0, v1, v2, d0, d1, d2, p0, p1, p2, rfl, rfl, rfl, h0, h1, h2⟩ := trodAll_three hA
 obtain ⟨rfl, rfl⟩ := trodVars_none hV
 have hval : ∀ (j : Nat) t v, Tryz.f9.params[j]? = some t -> #[v0, v1, v2][j]? = some v -> Value.okWide Tryz.prog W .any base t v := hval0
 obtain ⟨n0, rfl, rfl, rfl, wf0⟩ := open_int Tryz.underlying3 (hval 0 3 v0 (by rw [Tryz.params9]; rfl) rfl) h0
 obtain ⟨n1, rfl, rfl, rfl, wf1⟩ := open_int Tryz.underlying3 (hval 1 3 v1 (by rw [Tryz.params9]; rfl) rfl) h1
 obtain ⟨n2, rfl, rfl, rfl, wf2⟩ := open_int Tryz.underlying3 (hval 2 3 v2 (by rw [Tryz.params9]; rfl) rfl) h2
 clear hA0 hval0 hval
 simp only [List.append_nil] at hW'
 refine (flipped_any n0 n1 n2 W (I64_of_wf wf0) (I64_of_wf wf1) (I64_of_wf wf2) (glob_of_laid hL)).mono fun e W' ⟨he, hnx⟩ => ?_
 subst he
 refine ⟨_, rfl, _, _, _, [], [], [], hW', ?_, ?_, rfl, hnx.frame _, fun h => by cases h⟩
 . exact trodAll_mk1 (shut_bool Tryz.underlying4 true)
 . exact trodAll_mk3 (shut_int Tryz.underlying3 wf0) (shut_int Tryz.underlying3 wf1) (shut_int Tryz.underlying3 wf2)
theorem flipped_q1 : laidOutB Tryz.pinned.checked.prog = true ∧ mapsRowed Tryz.pinned.checked.prog = true := ⟨by kernel_rfl, by kernel_rfl⟩
theorem flipped_q2 : (Rows.flippedRow.inPlace == Tryz.pinned.checked.prog.inPlace 9) = true ∧ (Rows.flippedRow.unfollowed == Tryz.pinned.checked.prog.unfollowed 9) = true ∧ (Rows.flippedRow.recurses == Tryz.pinned.checked.prog.recurses 9) = true ∧ (Rows.flippedRow.named == Tryz.pinned.checked.prog.varsNamed 9) = true :=
  ⟨by kernel_rfl, by kernel_rfl, by kernel_rfl, by kernel_rfl⟩
theorem flipped_q3 : Tryz.pinned.checked.prog.mayEnter = true := by kernel_rfl
theorem flipped_q4 : (Rows.flippedRow.lifted == Tryz.pinned.checked.prog.liftsFinal) = true := by kernel_rfl
theorem flipped_q5 : (Tryz.pinned.checked.prog.make == some Rows.flippedRow.make) = true := by kernel_rfl
theorem flipped_q6 : joinedFacts Tryz.pinned.checked.prog 9 Tryz.f9 Rows.flippedSpec Rows.flippedRow = true := by
  have am : ∀ {a b : Bool}, a = true → b = true → (a && b) = true := fun h k => by rw [h, k]; rfl
  unfold joinedFacts
  repeat' with_reducible apply am
  all_goals first | with_reducible exact flipped_q1.1 | with_reducible exact flipped_q1.2 | with_reducible exact flipped_q2.1 | with_reducible exact flipped_q2.2.1 | with_reducible exact flipped_q2.2.2.1 | with_reducible exact flipped_q2.2.2.2 | with_reducible exact flipped_q3 | with_reducible exact flipped_q4 | with_reducible exact flipped_q5 | kernel_rfl
theorem flipped_holds : Rows.FlippedSaid :=
 OpenClaim.holds_of_wide 9 Tryz.f9 rfl rfl rfl rfl rfl rfl rfl ⟨rfl, rfl, rfl, rfl, rfl⟩ rfl rfl rfl rfl rfl (by kernel_rfl) Tryz.func9 flipped_q6
   (of_decide_eq_true (by kernel_rfl)) (by unfold Func.isWrapper; rw [if_neg (of_decide_eq_false (by kernel_rfl))]; exact ⟨rfl, rfl⟩)
   (fun os started H enc _ => flipped_lifted os started H enc)
end Go.Proofs.YtemondlgcmpbbaaGreatDoor
