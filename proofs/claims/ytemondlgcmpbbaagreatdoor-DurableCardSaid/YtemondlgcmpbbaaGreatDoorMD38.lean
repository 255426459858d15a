/- Fe Du Oi Dul: merged. -/
import Derived.Test.YtemondlgcmpbbaaGreatDoorMD06
import Derived.Test.YtemondlgcmpbbaaGreatDoorMD31
import Derived.Deep.LoopGhost
import Derived.Test.YtemondlgcmpbbaaGreatDoorMD35
import Derived.Test.YtemondlgcmpbbaaGreatDoorMD37
import Derived.Test.YtemondlgcmpbbaaGreatDoorMD36
import Derived.ChangeSlices
import Derived.ChangeMaps5
namespace Go.Proofs.YtemondlgcmpbbaaGreatDoor
open Go.RowKit
set_option maxRecDepth 100000
def icells (l : List Int) : List Value := l.map (Value.int .i64)
theorem icells_app (a b : List Int) : icells (a ++ b) = icells a ++ icells b := by simp [icells]
def IntsAt (w : World) (A : Option Addr) (n c : Nat) (zs : List Int) : Prop :=
 zs.length = n /\ n <= c /\ c <= maxLen /\ (∀ z ∈ zs, I64 z) /\ (0 < n -> ∃ g o, A = some ⟨g, o, none⟩ /\ g < w.heap.size /\ ∀ j z, zs[j]? = some z -> w.cell? ⟨g, o + j, none⟩ = some (.int .i64 z))
theorem IntsAt.below {w w' : World} {A : Option Addr} {n c : Nat} {zs : List Int} (h : IntsAt w A n c zs) (hb : Below w.heap.size w w') : IntsAt w' A n c zs := by
 obtain ⟨h1, h2, h3, h4, h5⟩ := h
 refine ⟨h1, h2, h3, h4, fun h0 => ?_⟩
 obtain ⟨g, o, hA, hg, hc⟩ := h5 h0
 exact ⟨g, o, hA, Nat.lt_of_lt_of_le hg hb.size, fun j z hz => by rw [<- hc j z hz]; exact hb.cell hg⟩
theorem info_int : (Tryz.prog.info? 3).map (fun i => (i.zero, i.size, i.bytes)) = some (some (.int .i64 0), 1, 8) := by kernel_rfl
set_option maxHeartbeats 1000000 in
theorem few_any (A : Option Addr) (n c : Nat) (zs : List Int) (w : World) (h : IntsAt w A n c zs) :
   Calls Tryz.prog 35 #[.slice A n c] w fun e w' => ∃ A' m' c', e = .returned (.slice A' m' c') /\ w'.ownsRow w.heap.size 3 1 (.slice A' m' c') m' (icells (zs.take 64)) /\ Below w.heap.size w w' := by
 obtain ⟨i0, hi0, hz0, hz1, hz2⟩ := info_parts info_int
 have HI0 := hide hi0
 have HZ0 := hide hz0
 have HZ1 := hide hz1
 have HZ2 := hide hz2
 have hnm : n <= maxLen := Nat.le_trans h.2.1 h.2.2.1
 unfold maxLen at hnm
 have HH := hide h
 clear h hi0 hz0 hz1 hz2
 go_enter Tryz.func35, Tryz.ntmps35
 go_wp2
 go_loopw [3, 4] (fun v i wr => ∃ k : Nat, k <= n /\ k <= 64 /\ i = .int .i64 k /\ wr.ownsRow w.heap.size 3 1 v k (icells (zs.take k)) /\ Below w.heap.size w wr) (fun _ i _ => 64 - (intOf i).toNat)
 case atStart => exact ⟨0, Nat.zero_le _, Nat.zero_le _, rfl, by rw [List.take_zero]; exact World.ownsRow_nil _ _ _ _, Below.refl _ _⟩
 case round =>
   obtain ⟨k, hk, hk64, rfl, hown, hbr⟩ := hrel
   obtain ⟨A1, c1, rfl, _⟩ := ownN_form hown
   have hzr := hbr.size
   have hI := HH.out.below hbr
   by_cases hlt : k < n
   . by_cases hl64 : k < 64
     . have k1 : (0 : Int) <= (k : Int) := by omega
       have k2 : (k : Int) < (n : Int) := by omega
       have k3 : (k : Int) < 64 := by omega
       have hkz : k < zs.length := by rw [hI.1]; exact hlt
       obtain ⟨g, o, rfl, hg, hc⟩ := hI.2.2.2.2 (by omega)
       have cz : wr.cell? ⟨g, o + k, none⟩ = some (.int .i64 zs[k]) := hc k _ (List.getElem?_eq_getElem hkz)
       have hwr : IntKind.i64.wrap ((k : Int) + 1) = (k : Int) + 1 := by rw [IntKind.wrap_i64]; omega
       have hnext : zs.take (k + 1) = zs.take k ++ [zs[k]] := by rw [List.take_succ_eq_append_getElem hkz]
       have HN := hide hnext
       have HOWN := hide hown
       have HBR := hide hbr
       clear hown hbr hnext hI hc
       go_wp2_with (first
         | (at_builtin
            refine wpList_append_any _ rfl (.tmp 15) (.tmp 20) 51 rfl w.heap.size 3 i0 _ 1 8 Tryz.underlying51 HI0.out HZ0.out HZ1.out HZ2.out rfl (by decide) (.slice A1 k c1) k _ rfl (HOWN.out.alloc _) (wr.heap.size + 1) (some ⟨wr.heap.size, 0, none⟩) 1 1 [.int .i64 zs[k]] rfl ⟨rfl, fun _ => ⟨_, rfl, Nat.lt_succ_self _, fun j u hu => by rw [Addr.add_lit]; exact (Blk.new wr 3 #[.int .i64 zs[k]]).range (cur := [.int .i64 zs[k]]) (o := 0) rfl j u hu⟩⟩ (fun u hu => by rw [List.mem_singleton.1 hu]; rfl) (by unfold maxLen; omega) (by omega) (by simp only [World.size_alloc]; omega) ?_
            intro v2 w2 hown2 hgr2 hat2
            have hb2 : Below w.heap.size w w2 := (HBR.out.alloc hzr _).grown hgr2 (by simp only [World.size_alloc]; omega) (fun g' e => (ownN_lt (HOWN.out) e).1)
            have HOWN2 := hide hown2
            have HB2 := hide hb2
            clear hown2 hgr2 hat2 hb2))
       go_roundw
       case rel =>
         refine ⟨k + 1, by omega, by omega, by go_num, ?_, HB2.out⟩
         rw [HN.out, icells_app]
         exact HOWN2.out
       case measure => simp [intOf]; omega
     . have k2 : (k : Int) < (n : Int) := by omega
       have k3 : ¬ ((k : Int) < 64) := by omega
       have HOWN := hide hown
       have HBR := hide hbr
       clear hown hbr
       go_wp2
       go_ret
       obtain rfl : k = 64 := by omega
       exact ⟨_, _, _, rfl, HOWN.out, HBR.out⟩
   . have k2 : ¬ ((k : Int) < (n : Int)) := by omega
     obtain rfl : k = n := by omega
     have HOWN := hide hown
     have HBR := hide hbr
     have HL := hide hI.1
     clear hown hbr
     go_wp2
     go_ret
     refine ⟨_, _, _, rfl, ?_, HBR.out⟩
     have := HOWN.out
     have e1 : zs.take k = zs := by rw [<- HL.out, List.take_length]
     have e2 : zs.take 64 = zs := List.take_of_length_le (by rw [HL.out]; omega)
     rw [e1] at this
     rw [e2]
     exact this
theorem DInv.congr {rd rd' : Nat -> List UInt8} {n : Nat} {hd : Hd} {T : Tree} (h : DInv rd n hd T) (hn : 2 <= n) (he : ∀ i, i < n -> rd' i = rd i) : DInv rd' n hd T := by
 refine ⟨?_, h.root, fun k t hr => (h.on k t hr).mono (R := LQ1 rd' n hd.gen) fun k' t' hq => hq.next (Nat.le_refl _) (he _ hq.1.2), h.nd⟩
 obtain ⟨tl, hh⟩ := h.heads
 refine ⟨tl, ?_⟩
 rw [<- hh]
 unfold headsN headUp headUp headUp
 rw [he 0 (by omega), he 1 (by omega)]
set_option maxHeartbeats 4000000 in
theorem durable_any (a b : Int) (A : Option Addr) (kn kc : Nat) (zs : List Int) (w : World) (ha : I64 a) (hb : I64 b) (hk : IntsAt w A kn kc zs) :
   Calls Tryz.prog 7 #[.int .i64 a, .int .i64 b, .slice A kn kc] w fun e w' => e = .returned (.bool true) /\ Below w.heap.size w w' := by
 have HBE := hide (begunD_any 150 a w (by omega) ha)
 have HPK := hide (fun W => pickk_fn b 30 W hb (by omega) (by omega))
 have hpl := pickN_lt b 30 (by omega)
 obtain ⟨p, hp⟩ : ∃ p, p = pickN b 30 := ⟨_, rfl⟩
 rw [<- hp] at HPK hpl
 have HPE := hide hp
 have hp1 : IntKind.i64.wrap (1 + (p : Int)) = ((1 + p : Nat) : Int) := by rw [IntKind.wrap_i64]; omega
 have HBI := hide hb
 have HPL := hide hpl
 have HKK := hide hk
 clear hp hb hpl hk ha
 go_enter Tryz.func7, Tryz.ntmps7
 go_wp2_with (first
   | (go_at_call 28; go_loud (
      refine HBE.out.mono ?_; rintro e w1 ⟨d, x, v1, K, T, r, rfl, hK, hs1, hg1, -, -, hrow1, hb1, hD1⟩
      have HWR := hide (writing_any b (1 + p) HBI.out (by have := HPL.out; omega) hs1 hg1 (by decide))
      have HG1 := hide hg1
      have HR1 := hide hrow1
      have HB1 := hide hb1
      have HD1 := hide hD1
      have HK0 := hide hK
      clear hK hs1 hg1 hrow1 hb1 hD1))
   | (go_at_call 18; go_loud (refine (HPK.out _).mono ?_; rintro e w' ⟨rfl, rfl⟩))
   | (go_at_call 29; go_loud (
      refine HWR.out.mono ?_; rintro e w2 ⟨t, v2, T2, rp2, ds2, st2, rfl, hs2, ht2, -, -, hk2⟩
      have hbb2 := HB1.out.trans hk2.1
      have HFW := hide (few_any A kn kc zs w2 (HKK.out.below hbb2))
      have HS2 := hide hs2
      have HB2 := hide hbb2
      have HK2 := hide hk2
      clear hs2 ht2 hk2 hbb2))
   | (go_at_call 35; go_loud (
      refine HFW.out.mono ?_; rintro e w3 ⟨A3, m3, c3, rfl, -, hb3⟩
      have hs3 := HS2.out.below hb3
      have HAF := hide (after_any (base' := w3.heap.size) (A := A3) (kn := m3) (kc := c3) hs3.disk (by omega) (Nat.le_refl _))
      have HB3 := hide hb3
      clear hs3 hb3))
   | (go_at_call 34; go_loud (first
      | (refine HAN.out.mono ?_; rintro e w7 ⟨b7, g7, bytes7, rfl, hd7, he7, hb7, hg7, hB7⟩
         have hD7 := HD4.out.congr (by omega) he7
         have HF7 := hide (found_any hd7 Nums.new_calm (by omega) hD7 HG1.out HG1.out.key8 (by decide) (Nat.le_trans HN6.out hB7.size) (Nat.le_trans HN6.out hb7) (Nat.le_trans HN6.out hg7))
         have HB7 := hide hB7
         clear hd7 he7 hb7 hg7 hB7 hD7)
      | (refine HAF.out.mono ?_; rintro e w4 ⟨b4, g4, bytes4, rfl, hd4, he4, hb4, hg4, hB4⟩
         have hD4 := HD1.out.congr (by omega) he4
         have hbb4 := HB2.out.trans (HB3.out.mono HB2.out.size)
         have hz3 := hbb4.size
         have HF4 := hide (found_any (N := w.heap.size) hd4 Nums.new_calm (by omega) hD4 HG1.out HG1.out.key8 (by decide) (Nat.le_trans hz3 hB4.size) (Nat.le_trans hz3 hb4) (Nat.le_trans hz3 hg4))
         have HB4 := hide hB4
         have HD4 := hide hD4
         have HZ3 := hide hz3
         have HBB4 := hide hbb4
         clear hd4 he4 hb4 hg4 hB4 hD4 hz3 hbb4)))
   | (go_at_call 36; go_loud (first
      | (refine HF7.out.mono ?_; rintro e w8 ⟨v8, x8, r8, rfl, hrow8, hs8, -, hk8⟩
         have HSM2 := hide (same_any v5 v8 T.pairs T.pairs w8 ((HR5.out.kp (KpP.of_below (N := w6.heap.size) HB7.out (Nat.le_refl _))).kp hk8) hrow8 (by have := HG1.out.pairs; omega) (by have := HG1.out.pairs; omega))
         rw [show decide (T.pairs = T.pairs) = true by simp] at HSM2
         have HK8 := hide hk8
         clear hrow8 hs8 hk8)
      | (refine HF4.out.mono ?_; rintro e w5 ⟨v5, x5, r5, rfl, hrow5, hs5, hby5, hk5⟩
         have HSM := hide (same_any v1 v5 T.pairs T.pairs w5 ((((HR1.out.kp HK2.out).kp (KpP.of_below (N := w2.heap.size) HB3.out (Nat.le_refl _))).kp (KpP.of_below (N := w3.heap.size) HB4.out (Nat.le_refl _))).kp hk5) hrow5 (by have := HG1.out.pairs; omega) (by have := HG1.out.pairs; omega))
         rw [show decide (T.pairs = T.pairs) = true by simp] at HSM
         have HR5' := hide hrow5
         have HS5 := hide hs5
         have HY5 := hide hby5
         have HK5 := hide hk5
         clear hrow5 hs5 hby5 hk5)))
   | (go_at_call 33; go_loud (first
      | (refine HSM2.out.mono ?_; rintro e w9 ⟨rfl, hb9⟩; have HB9 := hide hb9; clear hb9)
      | (refine HSM.out.mono ?_; rintro e w6 ⟨rfl, hb6⟩
         have hs6 := HS5.out.below hb6
         have hdk6 := hs6.disk
         rw [HY5.out] at hdk6
         have hbb6 := ((HBB4.out.trans (HB4.out.mono HBB4.out.size)).trans HK5.out.1).trans (hb6.mono (Nat.le_trans (Nat.le_trans HZ3.out HB4.out.size) HK5.out.1.size))
         have HAN := hide (after_any (base' := w6.heap.size) (A := none) (kn := 0) (kc := 0) hdk6 (by omega) (Nat.le_refl _))
         have HN6 := hide hbb6.size
         have HR5 := hide (HR5'.out.kp (KpP.of_below (N := w5.heap.size) hb6 (Nat.le_refl _)))
         have HB6 := hide hbb6
         clear hb6 hs6 hdk6 hbb6))))
 go_ret
 exact ⟨rfl, ((HB6.out.trans (HB7.out.mono HN6.out)).trans HK8.out.1).trans (HB9.out.mono (Nat.le_trans (Nat.le_trans HN6.out HB7.out.size) HK8.out.1.size))⟩
end Go.Proofs.YtemondlgcmpbbaaGreatDoor
namespace Go.Proofs.YtemondlgcmpbbaaGreatDoor
open Go.ChangeShapes Go.WideShapes Go.RowKit Go.Deep
set_option maxRecDepth 100000
theorem cell_below {w : World} {a : Addr} {v : Value} (h : w.cell? a = some v) : a.block < w.heap.size := by
 rcases Nat.lt_or_ge a.block w.heap.size with h' | h'
 . exact h'
 . simp [World.cell?, Array.getElem?_eq_none h'] at h
theorem open_ilist {H : Type} {enc : TypeId × Value -> H} {spare : Nat -> Bool} {held : Bool} {W : World} {fuel : Nat} {A : Option Addr} {n c : Nat} {x : DataW H × List MemPlace} (h : DataW.trod enc Tryz.prog W 0 spare held fuel 51 [.slice A n c] = some x) :
   ∃ zs, IntsAt W A n c zs := by
 rcases open_ints Tryz.underlying51 Tryz.underlying3 (show Tryz.prog.cellsOf 3 = 1 by kernel_rfl) h with ⟨e, -⟩ | ⟨a, len, cap, zs, e, -, hl, hm, hz, -, hc, hw⟩
 . obtain ⟨rfl, rfl, rfl⟩ : A = none /\ n = 0 /\ c = 0 := by simpa using e
   exact ⟨[], rfl, Nat.le_refl _, Nat.zero_le _, (fun z h => by cases h), fun h => absurd h (by omega)⟩
 . obtain ⟨rfl, rfl, rfl⟩ : A = some a /\ n = len /\ c = cap := by simpa using e
   have hlz : n <= zs.length := by rw [hz]; split <;> omega
   refine ⟨zs.take n, by rw [List.length_take]; omega, hl, hm, fun z h => I64_of_wf (hw z (List.mem_of_mem_take h)), fun h0 => ?_⟩
   obtain ⟨b, off, sp⟩ := a
   have hsp : sp = none := World.cell?_spot (hc 0 (by omega))
   subst hsp
   have hcell : ∀ j z, (zs.take n)[j]? = some z -> W.cell? ⟨b, off + j, none⟩ = some (.int .i64 z) := fun j z hj => by
     have hjz : zs[j]? = some z := by
       rw [List.getElem?_take] at hj
       split at hj
       . exact hj
       . cases hj
     have hjl := (List.getElem?_eq_some_iff.1 hjz).1
     have := hc j hjl
     rw [List.getD, hjz, Option.getD_some, add_plain] at this
     exact this
   refine ⟨b, off, rfl, ?_, hcell⟩
   exact cell_below (a := ⟨b, off + 0, none⟩) (v := .int .i64 (zs.getD 0 0)) (by have := hc 0 (by omega); rw [add_plain] at this; exact this)
theorem durable_lifted (os : Os) (started : os.Started) (H : Type) (enc : TypeId × Value -> H) :
   ReturnsInHanded {} Tryz.checked os 7 .any (fun w args => (Rows.durableSpec.pre enc Tryz.prog Tryz.f7 [] false w args /\ laidMetH Tryz.prog tLaid w) /\ sizedMet enc Tryz.prog Tryz.f7 (OpenSpec.ofChange Rows.durableSpec) false w args)
     (Rows.durableSpec.post enc Tryz.prog Tryz.f7 false true false false) := by
 refine returnsInHanded_of_change_and (C := Tryz.checked) (X := fun w _ => laidMetH Tryz.prog tLaid w) (fun _ _ _ hh h => h.of_heap hh) tOwn started (by kernel_rfl) Tryz.func7
   (ChangeSpec.witness_at (enc := enc) (C := Tryz.checked) (os := os) (X := fun w _ => laidMetH Tryz.prog tLaid w) false (laidWorld os) #[.int .i64 0, .int .i64 0, .slice none 0 0] 8 rfl (by kernel_rfl) (by kernel_rfl) (by kernel_rfl) (by kernel_rfl) (by kernel_rfl) (laidWorld_met os _)) ?_
 intro W base args ds gs before hval0 hW _ _ hL _
 have hW' := hW
 obtain ⟨p, q, hA0, hV, rfl, _, _⟩ := hW
 have hA : DataW.TrodAll enc Tryz.prog W 0 (fun _ => true) true Tryz.f7.params.toList args.toList ds p := hA0
 rw [Tryz.params7] at hA
 obtain ⟨v0, v1, v2, d0, d1, d2, p0, p1, p2, rfl, rfl, rfl, h0, h1, h2⟩ := trodAll_three hA
 obtain ⟨rfl, rfl⟩ := trodVars_none hV
 have hval : ∀ (j : Nat) t v, Tryz.f7.params[j]? = some t -> #[v0, v1, v2][j]? = some v -> Value.okWide Tryz.prog W .any base t v := hval0
 obtain ⟨n0, rfl, rfl, rfl, wf0⟩ := open_int Tryz.underlying3 (hval 0 3 v0 (by rw [Tryz.params7]; rfl) rfl) h0
 obtain ⟨n1, rfl, rfl, rfl, wf1⟩ := open_int Tryz.underlying3 (hval 1 3 v1 (by rw [Tryz.params7]; rfl) rfl) h1
 have hk2 := h2
 obtain ⟨fuel2, hf2⟩ := h2
 obtain ⟨A2, m2, c2, rfl⟩ := okWide_slice Tryz.underlying51 (hval 2 51 v2 (by rw [Tryz.params7]; rfl) rfl)
 obtain ⟨zs2, hz2⟩ := open_ilist hf2
 clear hA0 hval0 hval
 simp only [List.append_nil, List.nil_append] at hW'
 have hlt : ∀ x ∈ p2, x.block < W.heap.size := fun x hx => by simpa using hW'.lt x hx
 have harg : ∀ W' : World, Below W.heap.size W W' -> DataW.Trod enc Tryz.prog W' 0 (fun b => decide (b < W.heap.size)) true 51 (.slice A2 m2 c2) d2 p2 :=
   fun W' hn => Below.trod tLaidOut (by kernel_rfl) (of_decide_eq_true (by kernel_rfl)) hk2 hn hlt
 refine (durable_any n0 n1 A2 m2 c2 zs2 W (I64_of_wf wf0) (I64_of_wf wf1) hz2).mono fun e W' ⟨he, hnx⟩ => ?_
 subst he
 refine ⟨_, rfl, _, _, _, [], p2, [], hW', ?_, ?_, rfl, hnx.frame _, fun h => by cases h⟩
 . exact trodAll_mk1 (shut_bool Tryz.underlying4 true)
 . exact trodAll_mk3 (shut_int Tryz.underlying3 wf0) (shut_int Tryz.underlying3 wf1) (harg _ hnx)
theorem durable_q1 : laidOutB Tryz.pinned.checked.prog = true ∧ mapsRowed Tryz.pinned.checked.prog = true := ⟨by kernel_rfl, by kernel_rfl⟩
theorem durable_q2 : (Rows.durableRow.inPlace == Tryz.pinned.checked.prog.inPlace 7) = true ∧ (Rows.durableRow.unfollowed == Tryz.pinned.checked.prog.unfollowed 7) = true ∧ (Rows.durableRow.recurses == Tryz.pinned.checked.prog.recurses 7) = true ∧ (Rows.durableRow.named == Tryz.pinned.checked.prog.varsNamed 7) = true :=
  ⟨by kernel_rfl, by kernel_rfl, by kernel_rfl, by kernel_rfl⟩
theorem durable_q3 : Tryz.pinned.checked.prog.mayEnter = true := by kernel_rfl
theorem durable_q4 : (Rows.durableRow.lifted == Tryz.pinned.checked.prog.liftsFinal) = true := by kernel_rfl
theorem durable_q5 : (Tryz.pinned.checked.prog.make == some Rows.durableRow.make) = true := by kernel_rfl
theorem durable_q6 : joinedFacts Tryz.pinned.checked.prog 7 Tryz.f7 Rows.durableSpec Rows.durableRow = true := by
  have am : ∀ {a b : Bool}, a = true → b = true → (a && b) = true := fun h k => by rw [h, k]; rfl
  unfold joinedFacts
  repeat' with_reducible apply am
  all_goals first | with_reducible exact durable_q1.1 | with_reducible exact durable_q1.2 | with_reducible exact durable_q2.1 | with_reducible exact durable_q2.2.1 | with_reducible exact durable_q2.2.2.1 | with_reducible exact durable_q2.2.2.2 | with_reducible exact durable_q3 | with_reducible exact durable_q4 | with_reducible exact durable_q5 | kernel_rfl
theorem durable_holds : Rows.DurableSaid :=
 OpenClaim.holds_of_wide 7 Tryz.f7 rfl rfl rfl rfl rfl rfl rfl ⟨rfl, rfl, rfl, rfl, rfl⟩ rfl rfl rfl rfl rfl (by kernel_rfl) Tryz.func7 durable_q6
   (of_decide_eq_true (by kernel_rfl)) (by unfold Func.isWrapper; rw [if_neg (of_decide_eq_false (by kernel_rfl))]; exact ⟨rfl, rfl⟩)
   (fun os started H enc _ => durable_lifted os started H enc)
end Go.Proofs.YtemondlgcmpbbaaGreatDoor
