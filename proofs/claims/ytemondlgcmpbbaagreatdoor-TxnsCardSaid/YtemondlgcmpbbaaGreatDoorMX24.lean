/- Fv Tq: merged. -/
import Derived.Test.YtemondlgcmpbbaaGreatDoorMX23
import Derived.Test.YtemondlgcmpbbaaGreatDoorMX09
namespace Go.Proofs.YtemondlgcmpbbaaGreatDoor
open Go.RowKit
set_option maxRecDepth 100000
set_option maxHeartbeats 1000000 in
theorem zug (t x c : Nat) (τ : TxS) (s : DbS) (k v : Str) (w : World) (hT : TxAt w t τ) (hD : DbAt w x s) (hx : τ.db = x) (hk : k.size <= 9223372036854775807) (hm : zbe s.poi τ.done true τ.write k = c) (hc : c ≠ 0) :
   Calls Tryz.prog 24 #[.pointer (some ⟨t, 0, none⟩), .string k, .string v] w fun e w' => ∃ f, e = .returned (zag f) /\ zao w' f opPut c /\ Below w.heap.size w w' := by
 have t0 : w.cell? ⟨t, 0, none⟩ = some (.pointer (some ⟨x, 0, none⟩)) := by rw [<- hx]; exact zab hT 0 rfl
 have htx : t ≠ x := Blk.ne_ hT hD (by decide)
 have HL := zaa (zce hD rfl)
 have HT := zaa hT
 have HD := zaa hD
 have HM0 := zaa hm
 have HC := zaa hc
 clear hT hD hm hc
 go_enter_defers Tryz.func24, Tryz.ntmps24
 go_wp2_with (first
  | (go_at_call 51; go_loud (
     refine HL.out.mono ?_; rintro e w1 ⟨rfl, hb1, ho1, hs1⟩
     have hT1 := HT.out.only ho1 htx
     have k0 : w1.cell? ⟨t, 0, none⟩ = some (.pointer (some ⟨x, 0, none⟩)) := by rw [<- hx]; exact zab hT1 0 rfl
     have HM := zaa (zdb t x τ s 1 opPut k true w1.heap.size (w1.alloc (.cells #[.string k] 9)) (hT1.alloc _) (hb1.alloc _) hx (zab (Blk.new w1 9 #[.string k]) 0 rfl) hk)
     rw [HM0.out] at HM
     have HB1 := zaa hb1
     have HO1 := zaa ho1
     clear hT1 hb1 ho1 hs1))
  | (go_at_call 54; go_loud (
     unfold opPut at HM
     refine HM.out.mono ?_; rintro e w2 ⟨v, rfl, hb2, ha⟩
     obtain ⟨f, rfl, hf, hlf⟩ : ∃ f, v = zag f /\ zao w2 f ⟨#[112, 117, 116]⟩ c /\ (w1.alloc (.cells #[.string k] 9)).heap.size <= f := by
      rcases ha with h | h
      . exact absurd h.1 HC.out
      . exact h.2
     unfold zag
     have HF := zaa hf
     have HLF := zaa hlf
     have HB2 := zaa hb2
     clear ha hf hlf hb2)))
 have hb12 : Below w1.heap.size w1 w2 := ((Below.refl _ _).alloc (Nat.le_refl _) _).trans (HB2.out.mono (by simp))
 have hD2 := HB1.out.below hb12 HB1.out.lt
 have hne : f ≠ x := by have := HLF.out; have := HB1.out.lt; simp at *; omega
 refine leaves_cons (f := 52) (args := #[.pointer (some ⟨x, 0, none⟩)]) (by simp) (by simp [go_sem]) ?_
 refine (zbd .returning hD2 rfl).mono ?_
 rintro e u' w4 ⟨rfl, rfl, hb4, ho4, hs4⟩
 exact ⟨_, results_tmp rfl _ _ _, f, rfl, Blk.only HF.out ho4 hne, ((HO1.out.below hb12).trans ho4).back HD.out hb4⟩
def zf9 : ByteArray := ⟨#[98, 101, 103, 105, 110]⟩
set_option maxHeartbeats 1000000 in
theorem zpn (x : Nat) (a : Addr) (s : DbS) (w : World) (h : DbAt w x s) (hp : s.poi = false) (hw : s.writer = .pointer (some a)) :
   Calls Tryz.prog 22 #[.pointer (some ⟨x, 0, none⟩), .bool true] w fun e w' => ∃ f, e = .returned (.tuple #[.pointer none, zag f]) /\ zao w' f zf9 4 /\ Below w.heap.size w w' := by
 obtain ⟨dk, root, keys, writer, rd, poi⟩ := s
 simp only at hp hw
 subst hp
 subst hw
 have HL := zaa (zce h rfl)
 have HD := zaa h
 clear h
 go_enter_defers Tryz.func22, Tryz.ntmps22
 go_wp2_with (first
  | (go_at_call 51; go_loud (
     refine HL.out.mono ?_; rintro e w1 ⟨rfl, hb1, ho1, hs1⟩
     have c5 : w1.cell? ⟨x, 5, none⟩ = some (.pointer (some a)) := zab hb1 5 rfl
     have c6 : w1.cell? ⟨x, 6, none⟩ = some (.map (some rd)) := zab hb1 6 rfl
     have c7 : w1.cell? ⟨x, 7, none⟩ = some (.bool false) := zab hb1 7 rfl
     have HB1 := zaa hb1
     have HO1 := zaa ho1
     clear hb1 ho1 hs1))
  | (go_at_call 53; go_loud (
     refine (zb6 _ _ _).mono ?_; rintro e w2 ⟨rfl, hw2⟩
     have hb2 : Below w1.heap.size w1 w2 := by rw [hw2]; exact (Below.refl _ _).alloc (Nat.le_refl _) _
     have hF2 : zao w2 w1.heap.size zf9 4 := by rw [hw2]; exact Blk.new _ _ _
     unfold zag
     have HF := zaa hF2
     have HB2 := zaa hb2
     clear hw2 hb2 hF2)))
 have hD2 := HB1.out.below HB2.out HB1.out.lt
 have hne : w1.heap.size ≠ x := by have := HB1.out.lt; omega
 refine leaves_cons (f := 52) (args := #[.pointer (some ⟨x, 0, none⟩)]) (by simp) (by simp [go_sem]) ?_
 refine (zbd .returning hD2 rfl).mono ?_
 rintro e u' w4 ⟨rfl, rfl, hb4, ho4, hs4⟩
 exact ⟨_, results_tmp2 rfl _ _ _, w1.heap.size, rfl, Blk.only HF.out ho4 hne, ((HO1.out.below HB2.out).trans ho4).back HD.out hb4⟩
set_option maxHeartbeats 1000000 in
theorem zsz (t x : Nat) (τ : TxS) (s : DbS) (k v : Str) (w : World) (hT : TxAt w t τ) (hD : DbAt w x s) (hx : τ.db = x) (hk : k.size <= 9223372036854775807) (hm : zbe s.poi τ.done true τ.write k = 0) (hv : 12 < v.size) :
   Calls Tryz.prog 24 #[.pointer (some ⟨t, 0, none⟩), .string k, .string v] w fun e w' => ∃ f, e = .returned (zag f) /\ zao w' f opPut 2 /\ Below w.heap.size w w' := by
 have t0 : w.cell? ⟨t, 0, none⟩ = some (.pointer (some ⟨x, 0, none⟩)) := by rw [<- hx]; exact zab hT 0 rfl
 have htx : t ≠ x := Blk.ne_ hT hD (by decide)
 have HL := zaa (zce hD rfl)
 have HT := zaa hT
 have HD := zaa hD
 have HM0 := zaa hm
 clear hT hD hm
 have hvi : (12 : Int) < (v.size : Int) := by omega
 go_enter_defers Tryz.func24, Tryz.ntmps24
 go_wp2_with (first
  | (go_at_call 51; go_loud (
     refine HL.out.mono ?_; rintro e w1 ⟨rfl, hb1, ho1, hs1⟩
     have hT1 := HT.out.only ho1 htx
     have k0 : w1.cell? ⟨t, 0, none⟩ = some (.pointer (some ⟨x, 0, none⟩)) := by rw [<- hx]; exact zab hT1 0 rfl
     have HM := zaa (zdb t x τ s 1 opPut k true w1.heap.size (w1.alloc (.cells #[.string k] 9)) (hT1.alloc _) (hb1.alloc _) hx (zab (Blk.new w1 9 #[.string k]) 0 rfl) hk)
     rw [HM0.out] at HM
     have HB1 := zaa hb1
     have HO1 := zaa ho1
     clear hT1 hb1 ho1 hs1))
  | (go_at_call 54; go_loud (
     unfold opPut at HM
     refine HM.out.mono ?_; rintro e w' ⟨v, rfl, ha⟩
     obtain ⟨rfl, rfl⟩ : v = .nilIface /\ w1.alloc (.cells #[.string k] 9) = w' := by
      rcases ha.2 with h | h
      . exact ⟨h.2.1, h.2.2⟩
      . exact absurd rfl h.1
     clear ha))
  | (go_at_call 53; go_loud (
     refine (zb6 _ _ _).mono ?_; rintro e w2 ⟨rfl, hw2⟩
     have hb2 : Below w1.heap.size w1 w2 := by rw [hw2]; exact ((Below.refl _ _).alloc (Nat.le_refl _) _).alloc (by simp) _
     have hF2 : zao w2 (w1.heap.size + 1) opPut 2 := by rw [hw2]; exact Blk.new2 w1 _ _ _
     have HF := zaa hF2
     have HB2 := zaa hb2
     clear hF2 hb2 hw2
     unfold zag)))
 have hD2 := HB1.out.below HB2.out HB1.out.lt
 have hxl := HB1.out.lt
 refine leaves_cons (f := 52) (args := #[.pointer (some ⟨x, 0, none⟩)]) (by simp) (by simp [go_sem]) ?_
 refine (zbd .returning hD2 rfl).mono ?_
 rintro e u' w4 ⟨rfl, rfl, hb4, ho4, hs4⟩
 exact ⟨_, results_tmp rfl _ _ _, _, rfl, Blk.only HF.out ho4 (by omega), ((HO1.out.below HB2.out).trans ho4).back HD.out hb4⟩
set_option maxHeartbeats 3200000 in
theorem zpo {ok : Nat -> Prop} (t x : Nat) (rp : Value) (T : Tree) (ds : List Nat) (write done : Bool) (stamp : Int) (s : DbS) (k v : Str) (w : World) (hT : TxAt w t ⟨x, rp, T.keys, write, done, stamp⟩) (hD : DbAt w x s)
   (hV : TreeV ok w T rp ds) (hR : TR T) (hp : T.pairs.length <= 150) (h1 : zck k) (h2 : zdi v) (hm : zbe s.poi done true write k = 0)
   (b n c : Nat) (hd : Hd) (A : Option Addr) (cv : Value) (m : Nums) (hdk : Blk w s.dk 151 (#[dev b] ++ hd.cells)) (hdev : DkAt w b (.slice A n c) cv m) (hn : n <= 1000) (hget : T.get k = none) (hroom : zdm n <= (T.keys : Int)) :
   Calls Tryz.prog 24 #[.pointer (some ⟨t, 0, none⟩), .string k, .string v] w fun e w' => ∃ f, e = .returned (zag f) /\ zao w' f opPut 3 /\ Below w.heap.size w w' := by
 have t0 : w.cell? ⟨t, 0, none⟩ = some (.pointer (some ⟨x, 0, none⟩)) := zab hT 0 rfl
 have htx : t ≠ x := Blk.ne_ hT hD (by decide)
 have hkb := h1
 unfold zck at hkb
 have hk : k.size <= 9223372036854775807 := by omega
 have hvb : v.size <= 12 := h2
 have hvi : ¬ (12 : Int) < (v.size : Int) := by omega
 obtain ⟨q, rfl⟩ := hV.ptr
 have hdx : s.dk ≠ x := Blk.ne_ hdk hD (by decide)
 have hbx : b ≠ x := Blk.ne_ hdev hD (by decide)
 have HL := zaa (zce hD rfl)
 have HT := zaa hT
 have HV := zaa (fun W (ho : Only (· = x) w W) => hV.at1 hD (zet (by decide) (by decide) (by decide)) ho)
 have HXL := zaa hD.lt
 have HRT := zaa hR
 have HP := zaa hp
 have HM0 := zaa hm
 have HDK := zaa hdk
 have HDEV := zaa hdev
 have HRM := zaa hroom
 have HGT := zaa hget
 have HD := zaa hD
 have H1 := zaa h1
 have H2 := zaa h2
 clear hT hD hV hR hp hm hdk hdev hroom hkb h1 h2 hget
 go_enter_defers Tryz.func24, Tryz.ntmps24
 go_upto_region 9 with (first
  | (go_at_call 51; go_loud (
     refine HL.out.mono ?_; rintro e w1 ⟨rfl, hb1, ho1, hs1⟩
     have hT1 := HT.out.only ho1 htx
     have k0 : w1.cell? ⟨t, 0, none⟩ = some (.pointer (some ⟨x, 0, none⟩)) := zab hT1 0 rfl
     have HM := zaa (zdb t x _ s 1 opPut k true w1.heap.size (w1.alloc (.cells #[.string k] 9)) (hT1.alloc _) (hb1.alloc _) rfl (zab (Blk.new w1 9 #[.string k]) 0 rfl) hk)
     rw [HM0.out] at HM
     have k1 := fun o => zaj o (zab hT1 1 rfl)
     have k2 := fun o => zaj o (zab hT1 2 rfl)
     have HVA := zaa ((HV.out w1 ho1).below ((Below.refl _ _).alloc (Nat.le_refl _) (.cells #[.string k] 9)) (fun _ h => h))
     have HG := zaa (zfb T (.pointer q) ds k (w1.alloc (.cells #[.string k] 9)) HVA.out HRT.out HP.out)
     unfold za0 zgp at HG
     have HT1 := zaa hT1
     have HB1 := zaa hb1
     have HO1 := zaa ho1
     have HS1 := zaa hs1
     clear hT1 hb1 ho1 hs1))
  | (go_at_call 54; go_loud (
     unfold opPut at HM
     refine HM.out.mono ?_; rintro e w' ⟨v, rfl, ha⟩
     obtain ⟨rfl, rfl⟩ : v = .nilIface /\ w1.alloc (.cells #[.string k] 9) = w' := by
      rcases ha.2 with h | h
      . exact ⟨h.2.1, h.2.2⟩
      . exact absurd rfl h.1
     clear ha))
  | (go_at_call 56; go_loud (
     refine HG.out.mono ?_; rintro e w2 ⟨rfl, hb2⟩
     have HB2 := zaa hb2
     clear hb2)))
 have hbw2 : Below w1.heap.size w1 w2 := ((Below.refl _ _).alloc (Nat.le_refl _) _).trans (HB2.out.mono (by simp))
 have hT2 : TxAt w2 t ⟨x, .pointer q, T.keys, write, done, stamp⟩ := Blk.below HT1.out hbw2 (Blk.lt HT1.out)
 have hD2 : Blk w2 x 91 (zbw s 1) := HB1.out.below hbw2 HB1.out.lt
 have hV2 : TreeV ok w2 T (.pointer q) ds := HVA.out.below HB2.out (fun _ h => h)
 have hdk2 : Blk w2 s.dk 151 (#[dev b] ++ hd.cells) := (HDK.out.only HO1.out hdx).below hbw2 (HDK.out.only HO1.out hdx).lt
 have hdev2 : DkAt w2 b (.slice A n c) cv m := Blk.below (Blk.only HDEV.out HO1.out hbx) hbw2 (Blk.only HDEV.out HO1.out hbx).lt
 have m0 : w2.cell? ⟨t, 0, none⟩ = some (.pointer (some ⟨x, 0, none⟩)) := zab hT2 0 rfl
 have m1 : w2.cell? ⟨t, 1, none⟩ = some (.pointer q) := zab hT2 1 rfl
 have m2 : w2.cell? ⟨t, 2, none⟩ = some (.int .i64 T.keys) := zab hT2 2 rfl
 have m3 : w2.cell? ⟨x, 2, none⟩ = some (.pointer (some ⟨s.dk, 0, none⟩)) := zab hD2 2 rfl
 have RM := zaa (fun nq => zmm s.dk b n c hd A cv m (w2.drewN nq) (show Blk (w2.drewN nq) _ _ _ from hdk2) (show DkAt (w2.drewN nq) _ _ _ _ from hdev2) hn)
 have HT2 := zaa hT2
 have HD2 := zaa hD2
 have HV2 := zaa hV2
 clear hT2 hD2 hV2 hdk2 hdev2 hbw2 k1 k2 k0
 rw [HGT.out]
 have hge : zdm n <= (T.keys : Int) := HRM.out
 go_cut [60] from 43 to 60 (fun s60 wx => s60 = .bool true /\ ∃ nq, wx = w2.drewN nq)
 case first =>
  go_quiet (first | (go_at_call 57; exact zcm (RM.out _)))
  go_wp2
  go_meet
  exact ⟨rfl, _, rfl⟩
 case rest =>
  obtain ⟨rfl, nq, rfl⟩ := hcut
  go_wp2_with (first
   | (go_at_call 53; go_loud (
      refine (zb6 _ _ _).mono ?_; rintro e w3 ⟨rfl, hw3⟩
      have hb3 : Below w2.heap.size w2 w3 := by rw [hw3]; exact (zam (Below.refl _ _) nq).alloc (by simp [World.drewN]) _
      have hF3 : zao w3 w2.heap.size opPut 3 := by rw [hw3]; exact Blk.new (w2.drewN nq) _ _
      have HF3 := zaa hF3
      have HB3 := zaa hb3
      clear hF3 hb3 hw3
      unfold zag)))
  have hD3 : Blk w3 x 91 (zbw s 1) := HD2.out.below HB3.out HD2.out.lt
  have hz2 : w1.heap.size + 1 <= w2.heap.size := by have := HB2.out.size; simpa using this
  have hs1 := HS1.out
  have hxl := HXL.out
  refine leaves_cons (f := 52) (args := #[.pointer (some ⟨x, 0, none⟩)]) (by simp) (by simp [go_sem]) ?_
  refine (zbd .returning hD3 rfl).mono ?_
  rintro e u' w5 ⟨rfl, rfl, hb5, ho5, hs5⟩
  exact ⟨_, by simp [results, Tryz.results24, go_sem]; rfl, _, rfl, Blk.only HF3.out ho5 (by omega), ((((HO1.out.alloc _).below HB2.out).below HB3.out).trans ho5).back HD.out hb5⟩
set_option maxHeartbeats 1000000 in
theorem znv (x : Nat) (s : DbS) (ks : List Nat) (w : World) (h : DbAt w x s) (hp : s.poi = false) (hr : RdAt w s.rd ks) (h4 : ks.length = 4) :
   Calls Tryz.prog 22 #[.pointer (some ⟨x, 0, none⟩), .bool false] w fun e w' => ∃ f, e = .returned (.tuple #[.pointer none, zag f]) /\ zao w' f zf9 4 /\ Below w.heap.size w w' := by
 obtain ⟨dk, root, keys, writer, rd, poi⟩ := s
 simp only at hp hr
 subst hp
 have hrx : rd ≠ x := hr.ne_blk h
 have h4b : ((ks.length : Int) == 4) = true := by simp; omega
 have h4c : (ks.length : Int) = 4 := by omega
 have HR := zaa hr
 have HL := zaa (zce h rfl)
 have HD := zaa h
 clear h hr
 go_enter_defers Tryz.func22, Tryz.ntmps22
 go_wp2_with (first
  | (go_at_call 51; go_loud (
     refine HL.out.mono ?_; rintro e w1 ⟨rfl, hb1, ho1, hs1⟩
     have c5 : w1.cell? ⟨x, 5, none⟩ = some writer := zab hb1 5 rfl
     have c6 : w1.cell? ⟨x, 6, none⟩ = some (.map (some rd)) := zab hb1 6 rfl
     have c7 : w1.cell? ⟨x, 7, none⟩ = some (.bool false) := zab hb1 7 rfl
     have hl := fun ty => zqi (HR.out.only ho1 hrx) ty
     have HB1 := zaa hb1
     have HO1 := zaa ho1
     clear hb1 ho1 hs1))
  | (go_at_call 53; go_loud (
     refine (zb6 _ _ _).mono ?_; rintro e w2 ⟨rfl, hw2⟩
     have hb2 : Below w1.heap.size w1 w2 := by rw [hw2]; exact (Below.refl _ _).alloc (Nat.le_refl _) _
     have hF2 : zao w2 w1.heap.size zf9 4 := by rw [hw2]; exact Blk.new _ _ _
     unfold zag
     have HF := zaa hF2
     have HB2 := zaa hb2
     clear hw2 hb2 hF2)))
 have hD2 := HB1.out.below HB2.out HB1.out.lt
 have hne : w1.heap.size ≠ x := by have := HB1.out.lt; omega
 refine leaves_cons (f := 52) (args := #[.pointer (some ⟨x, 0, none⟩)]) (by simp) (by simp [go_sem]) ?_
 refine (zbd .returning hD2 rfl).mono ?_
 rintro e u' w4 ⟨rfl, rfl, hb4, ho4, hs4⟩
 exact ⟨_, results_tmp2 rfl _ _ _, w1.heap.size, rfl, Blk.only HF.out ho4 hne, ((HO1.out.below HB2.out).trans ho4).back HD.out hb4⟩
end Go.Proofs.YtemondlgcmpbbaaGreatDoor
