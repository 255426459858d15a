/- Fv Tq Ea Af: merged. -/
import Derived.Test.YtemondlgcmpbbaaGreatDoorMV23
import Derived.Test.YtemondlgcmpbbaaGreatDoorMV09
import Derived.Test.YtemondlgcmpbbaaGreatDoorMV20
namespace Go.Proofs.YtemondlgcmpbbaaGreatDoor
open Go.RowKit
set_option maxRecDepth 100000
set_option maxHeartbeats 1000000 in
theorem zw4 (t x c : Nat) (τ : TxS) (s : DbS) (k v : Str) (w : World) (hT : TxAt w t τ) (hD : DbAt w x s) (hx : τ.db = x) (hk : k.size <= 9223372036854775807) (hm : zbo s.poi τ.done true τ.write k = c) (hc : c ≠ 0) :
   Calls Tryz.prog 24 #[.pointer (some ⟨t, 0, none⟩), .string k, .string v] w fun e w' => ∃ f, e = .returned (zad f) /\ zaj w' f opPut c /\ Below w.heap.size w w' := by
 have t0 : w.cell? ⟨t, 0, none⟩ = some (.pointer (some ⟨x, 0, none⟩)) := by rw [<- hx]; exact zab hT 0 rfl
 have htx : t ≠ x := Blk.ne_ hT hD (by decide)
 have HL := zaa (zb3 hD rfl)
 have HT := zaa hT
 have HD := zaa hD
 have HM0 := zaa hm
 have HC := zaa hc
 clear hT hD hm hc
 go_enter_defers Tryz.func24, Tryz.ntmps24
 go_wp2_with (first
  | (go_at_call 51; go_loud (
     refine HL.out.mono ?_; rintro e w1 ⟨rfl, hb1, ho1, hs1⟩
     have hT1 := HT.out.only ho1 htx
     have k0 : w1.cell? ⟨t, 0, none⟩ = some (.pointer (some ⟨x, 0, none⟩)) := by rw [<- hx]; exact zab hT1 0 rfl
     have HM := zaa (zdr t x τ s 1 opPut k true w1.heap.size (w1.alloc (.cells #[.string k] 9)) (hT1.alloc _) (hb1.alloc _) hx (zab (Blk.new w1 9 #[.string k]) 0 rfl) hk)
     rw [HM0.out] at HM
     have HB1 := zaa hb1
     have HO1 := zaa ho1
     clear hT1 hb1 ho1 hs1))
  | (go_at_call 54; go_loud (
     unfold opPut at HM
     refine HM.out.mono ?_; rintro e w2 ⟨v, rfl, hb2, ha⟩
     obtain ⟨f, rfl, hf, hlf⟩ : ∃ f, v = zad f /\ zaj w2 f ⟨#[112, 117, 116]⟩ c /\ (w1.alloc (.cells #[.string k] 9)).heap.size <= f := by
      rcases ha with h | h
      . exact absurd h.1 HC.out
      . exact h.2
     unfold zad
     have HF := zaa hf
     have HLF := zaa hlf
     have HB2 := zaa hb2
     clear ha hf hlf hb2)))
 have hb12 : Below w1.heap.size w1 w2 := ((Below.refl _ _).alloc (Nat.le_refl _) _).trans (HB2.out.mono (by simp))
 have hD2 := HB1.out.below hb12 HB1.out.lt
 have hne : f ≠ x := by have := HLF.out; have := HB1.out.lt; simp at *; omega
 refine leaves_cons (f := 52) (args := #[.pointer (some ⟨x, 0, none⟩)]) (by simp) (by simp [go_sem]) ?_
 refine (zbe .returning hD2 rfl).mono ?_
 rintro e u' w4 ⟨rfl, rfl, hb4, ho4, hs4⟩
 exact ⟨_, results_tmp rfl _ _ _, f, rfl, Blk.only HF.out ho4 hne, ((HO1.out.below hb12).trans ho4).back HD.out hb4⟩
def zg4 : ByteArray := ⟨#[98, 101, 103, 105, 110]⟩
set_option maxHeartbeats 1000000 in
theorem zrk (x : Nat) (a : Addr) (s : DbS) (w : World) (h : DbAt w x s) (hp : s.poi = false) (hw : s.writer = .pointer (some a)) :
   Calls Tryz.prog 22 #[.pointer (some ⟨x, 0, none⟩), .bool true] w fun e w' => ∃ f, e = .returned (.tuple #[.pointer none, zad f]) /\ zaj w' f zg4 4 /\ Below w.heap.size w w' := by
 obtain ⟨dk, root, keys, writer, rd, poi⟩ := s
 simp only at hp hw
 subst hp
 subst hw
 have HL := zaa (zb3 h rfl)
 have HD := zaa h
 clear h
 go_enter_defers Tryz.func22, Tryz.ntmps22
 go_wp2_with (first
  | (go_at_call 51; go_loud (
     refine HL.out.mono ?_; rintro e w1 ⟨rfl, hb1, ho1, hs1⟩
     have c5 : w1.cell? ⟨x, 5, none⟩ = some (.pointer (some a)) := zab hb1 5 rfl
     have c6 : w1.cell? ⟨x, 6, none⟩ = some (.map (some rd)) := zab hb1 6 rfl
     have c7 : w1.cell? ⟨x, 7, none⟩ = some (.bool false) := zab hb1 7 rfl
     have HB1 := zaa hb1
     have HO1 := zaa ho1
     clear hb1 ho1 hs1))
  | (go_at_call 53; go_loud (
     refine (zb7 _ _ _).mono ?_; rintro e w2 ⟨rfl, hw2⟩
     have hb2 : Below w1.heap.size w1 w2 := by rw [hw2]; exact (Below.refl _ _).alloc (Nat.le_refl _) _
     have hF2 : zaj w2 w1.heap.size zg4 4 := by rw [hw2]; exact Blk.new _ _ _
     unfold zad
     have HF := zaa hF2
     have HB2 := zaa hb2
     clear hw2 hb2 hF2)))
 have hD2 := HB1.out.below HB2.out HB1.out.lt
 have hne : w1.heap.size ≠ x := by have := HB1.out.lt; omega
 refine leaves_cons (f := 52) (args := #[.pointer (some ⟨x, 0, none⟩)]) (by simp) (by simp [go_sem]) ?_
 refine (zbe .returning hD2 rfl).mono ?_
 rintro e u' w4 ⟨rfl, rfl, hb4, ho4, hs4⟩
 exact ⟨_, results_tmp2 rfl _ _ _, w1.heap.size, rfl, Blk.only HF.out ho4 hne, ((HO1.out.below HB2.out).trans ho4).back HD.out hb4⟩
set_option maxHeartbeats 1000000 in
theorem zvh (t x : Nat) (τ : TxS) (s : DbS) (k v : Str) (w : World) (hT : TxAt w t τ) (hD : DbAt w x s) (hx : τ.db = x) (hk : k.size <= 9223372036854775807) (hm : zbo s.poi τ.done true τ.write k = 0) (hv : 12 < v.size) :
   Calls Tryz.prog 24 #[.pointer (some ⟨t, 0, none⟩), .string k, .string v] w fun e w' => ∃ f, e = .returned (zad f) /\ zaj w' f opPut 2 /\ Below w.heap.size w w' := by
 have t0 : w.cell? ⟨t, 0, none⟩ = some (.pointer (some ⟨x, 0, none⟩)) := by rw [<- hx]; exact zab hT 0 rfl
 have htx : t ≠ x := Blk.ne_ hT hD (by decide)
 have HL := zaa (zb3 hD rfl)
 have HT := zaa hT
 have HD := zaa hD
 have HM0 := zaa hm
 clear hT hD hm
 have hvi : (12 : Int) < (v.size : Int) := by omega
 go_enter_defers Tryz.func24, Tryz.ntmps24
 go_wp2_with (first
  | (go_at_call 51; go_loud (
     refine HL.out.mono ?_; rintro e w1 ⟨rfl, hb1, ho1, hs1⟩
     have hT1 := HT.out.only ho1 htx
     have k0 : w1.cell? ⟨t, 0, none⟩ = some (.pointer (some ⟨x, 0, none⟩)) := by rw [<- hx]; exact zab hT1 0 rfl
     have HM := zaa (zdr t x τ s 1 opPut k true w1.heap.size (w1.alloc (.cells #[.string k] 9)) (hT1.alloc _) (hb1.alloc _) hx (zab (Blk.new w1 9 #[.string k]) 0 rfl) hk)
     rw [HM0.out] at HM
     have HB1 := zaa hb1
     have HO1 := zaa ho1
     clear hT1 hb1 ho1 hs1))
  | (go_at_call 54; go_loud (
     unfold opPut at HM
     refine HM.out.mono ?_; rintro e w' ⟨v, rfl, ha⟩
     obtain ⟨rfl, rfl⟩ : v = .nilIface /\ w1.alloc (.cells #[.string k] 9) = w' := by
      rcases ha.2 with h | h
      . exact ⟨h.2.1, h.2.2⟩
      . exact absurd rfl h.1
     clear ha))
  | (go_at_call 53; go_loud (
     refine (zb7 _ _ _).mono ?_; rintro e w2 ⟨rfl, hw2⟩
     have hb2 : Below w1.heap.size w1 w2 := by rw [hw2]; exact ((Below.refl _ _).alloc (Nat.le_refl _) _).alloc (by simp) _
     have hF2 : zaj w2 (w1.heap.size + 1) opPut 2 := by rw [hw2]; exact Blk.new2 w1 _ _ _
     have HF := zaa hF2
     have HB2 := zaa hb2
     clear hF2 hb2 hw2
     unfold zad)))
 have hD2 := HB1.out.below HB2.out HB1.out.lt
 have hxl := HB1.out.lt
 refine leaves_cons (f := 52) (args := #[.pointer (some ⟨x, 0, none⟩)]) (by simp) (by simp [go_sem]) ?_
 refine (zbe .returning hD2 rfl).mono ?_
 rintro e u' w4 ⟨rfl, rfl, hb4, ho4, hs4⟩
 exact ⟨_, results_tmp rfl _ _ _, _, rfl, Blk.only HF.out ho4 (by omega), ((HO1.out.below HB2.out).trans ho4).back HD.out hb4⟩
set_option maxHeartbeats 3200000 in
theorem zrl {ok : Nat -> Prop} (t x : Nat) (rp : Value) (T : Tree) (ds : List Nat) (write done : Bool) (stamp : Int) (s : DbS) (k v : Str) (w : World) (hT : TxAt w t ⟨x, rp, T.keys, write, done, stamp⟩) (hD : DbAt w x s)
   (hV : TreeV ok w T rp ds) (hR : TR T) (hp : T.pairs.length <= 150) (h1 : zb6 k) (h2 : zc2 v) (hm : zbo s.poi done true write k = 0)
   (b n c : Nat) (hd : Hd) (A : Option Addr) (cv : Value) (m : Nums) (hdk : Blk w s.dk 151 (#[dev b] ++ hd.cells)) (hdev : DkAt w b (.slice A n c) cv m) (hn : n <= 1000) (hget : T.get k = none) (hroom : zd3 n <= (T.keys : Int)) :
   Calls Tryz.prog 24 #[.pointer (some ⟨t, 0, none⟩), .string k, .string v] w fun e w' => ∃ f, e = .returned (zad f) /\ zaj w' f opPut 3 /\ Below w.heap.size w w' := by
 have t0 : w.cell? ⟨t, 0, none⟩ = some (.pointer (some ⟨x, 0, none⟩)) := zab hT 0 rfl
 have htx : t ≠ x := Blk.ne_ hT hD (by decide)
 have hkb := h1
 unfold zb6 at hkb
 have hk : k.size <= 9223372036854775807 := by omega
 have hvb : v.size <= 12 := h2
 have hvi : ¬ (12 : Int) < (v.size : Int) := by omega
 obtain ⟨q, rfl⟩ := hV.ptr
 have hdx : s.dk ≠ x := Blk.ne_ hdk hD (by decide)
 have hbx : b ≠ x := Blk.ne_ hdev hD (by decide)
 have HL := zaa (zb3 hD rfl)
 have HT := zaa hT
 have HV := zaa (fun W (ho : Only (· = x) w W) => hV.at1 hD (zb1 (by decide) (by decide) (by decide)) ho)
 have HXL := zaa hD.lt
 have HRT := zaa hR
 have HP := zaa hp
 have HM0 := zaa hm
 have HDK := zaa hdk
 have HDEV := zaa hdev
 have HRM := zaa hroom
 have HGT := zaa hget
 have HD := zaa hD
 have H1 := zaa h1
 have H2 := zaa h2
 clear hT hD hV hR hp hm hdk hdev hroom hkb h1 h2 hget
 go_enter_defers Tryz.func24, Tryz.ntmps24
 go_upto_region 9 with (first
  | (go_at_call 51; go_loud (
     refine HL.out.mono ?_; rintro e w1 ⟨rfl, hb1, ho1, hs1⟩
     have hT1 := HT.out.only ho1 htx
     have k0 : w1.cell? ⟨t, 0, none⟩ = some (.pointer (some ⟨x, 0, none⟩)) := zab hT1 0 rfl
     have HM := zaa (zdr t x _ s 1 opPut k true w1.heap.size (w1.alloc (.cells #[.string k] 9)) (hT1.alloc _) (hb1.alloc _) rfl (zab (Blk.new w1 9 #[.string k]) 0 rfl) hk)
     rw [HM0.out] at HM
     have k1 := fun o => zah o (zab hT1 1 rfl)
     have k2 := fun o => zah o (zab hT1 2 rfl)
     have HVA := zaa ((HV.out w1 ho1).below ((Below.refl _ _).alloc (Nat.le_refl _) (.cells #[.string k] 9)) (fun _ h => h))
     have HG := zaa (zf4 T (.pointer q) ds k (w1.alloc (.cells #[.string k] 9)) HVA.out HRT.out HP.out)
     unfold zav zhj at HG
     have HT1 := zaa hT1
     have HB1 := zaa hb1
     have HO1 := zaa ho1
     have HS1 := zaa hs1
     clear hT1 hb1 ho1 hs1))
  | (go_at_call 54; go_loud (
     unfold opPut at HM
     refine HM.out.mono ?_; rintro e w' ⟨v, rfl, ha⟩
     obtain ⟨rfl, rfl⟩ : v = .nilIface /\ w1.alloc (.cells #[.string k] 9) = w' := by
      rcases ha.2 with h | h
      . exact ⟨h.2.1, h.2.2⟩
      . exact absurd rfl h.1
     clear ha))
  | (go_at_call 56; go_loud (
     refine HG.out.mono ?_; rintro e w2 ⟨rfl, hb2⟩
     have HB2 := zaa hb2
     clear hb2)))
 have hbw2 : Below w1.heap.size w1 w2 := ((Below.refl _ _).alloc (Nat.le_refl _) _).trans (HB2.out.mono (by simp))
 have hT2 : TxAt w2 t ⟨x, .pointer q, T.keys, write, done, stamp⟩ := Blk.below HT1.out hbw2 (Blk.lt HT1.out)
 have hD2 : Blk w2 x 91 (zb8 s 1) := HB1.out.below hbw2 HB1.out.lt
 have hV2 : TreeV ok w2 T (.pointer q) ds := HVA.out.below HB2.out (fun _ h => h)
 have hdk2 : Blk w2 s.dk 151 (#[dev b] ++ hd.cells) := (HDK.out.only HO1.out hdx).below hbw2 (HDK.out.only HO1.out hdx).lt
 have hdev2 : DkAt w2 b (.slice A n c) cv m := Blk.below (Blk.only HDEV.out HO1.out hbx) hbw2 (Blk.only HDEV.out HO1.out hbx).lt
 have m0 : w2.cell? ⟨t, 0, none⟩ = some (.pointer (some ⟨x, 0, none⟩)) := zab hT2 0 rfl
 have m1 : w2.cell? ⟨t, 1, none⟩ = some (.pointer q) := zab hT2 1 rfl
 have m2 : w2.cell? ⟨t, 2, none⟩ = some (.int .i64 T.keys) := zab hT2 2 rfl
 have m3 : w2.cell? ⟨x, 2, none⟩ = some (.pointer (some ⟨s.dk, 0, none⟩)) := zab hD2 2 rfl
 have RM := zaa (fun nq => zn0 s.dk b n c hd A cv m (w2.drewN nq) (show Blk (w2.drewN nq) _ _ _ from hdk2) (show DkAt (w2.drewN nq) _ _ _ _ from hdev2) hn)
 have HT2 := zaa hT2
 have HD2 := zaa hD2
 have HV2 := zaa hV2
 clear hT2 hD2 hV2 hdk2 hdev2 hbw2 k1 k2 k0
 rw [HGT.out]
 have hge : zd3 n <= (T.keys : Int) := HRM.out
 go_cut [60] from 43 to 60 (fun s60 wx => s60 = .bool true /\ ∃ nq, wx = w2.drewN nq)
 case first =>
  go_quiet (first | (go_at_call 57; exact zcz (RM.out _)))
  go_wp2
  go_meet
  exact ⟨rfl, _, rfl⟩
 case rest =>
  obtain ⟨rfl, nq, rfl⟩ := hcut
  go_wp2_with (first
   | (go_at_call 53; go_loud (
      refine (zb7 _ _ _).mono ?_; rintro e w3 ⟨rfl, hw3⟩
      have hb3 : Below w2.heap.size w2 w3 := by rw [hw3]; exact (zae (Below.refl _ _) nq).alloc (by simp [World.drewN]) _
      have hF3 : zaj w3 w2.heap.size opPut 3 := by rw [hw3]; exact Blk.new (w2.drewN nq) _ _
      have HF3 := zaa hF3
      have HB3 := zaa hb3
      clear hF3 hb3 hw3
      unfold zad)))
  have hD3 : Blk w3 x 91 (zb8 s 1) := HD2.out.below HB3.out HD2.out.lt
  have hz2 : w1.heap.size + 1 <= w2.heap.size := by have := HB2.out.size; simpa using this
  have hs1 := HS1.out
  have hxl := HXL.out
  refine leaves_cons (f := 52) (args := #[.pointer (some ⟨x, 0, none⟩)]) (by simp) (by simp [go_sem]) ?_
  refine (zbe .returning hD3 rfl).mono ?_
  rintro e u' w5 ⟨rfl, rfl, hb5, ho5, hs5⟩
  exact ⟨_, by simp [results, Tryz.results24, go_sem]; rfl, _, rfl, Blk.only HF3.out ho5 (by omega), ((((HO1.out.alloc _).below HB2.out).below HB3.out).trans ho5).back HD.out hb5⟩
set_option maxHeartbeats 1000000 in
theorem zpe (x : Nat) (s : DbS) (ks : List Nat) (w : World) (h : DbAt w x s) (hp : s.poi = false) (hr : RdAt w s.rd ks) (h4 : ks.length = 4) :
   Calls Tryz.prog 22 #[.pointer (some ⟨x, 0, none⟩), .bool false] w fun e w' => ∃ f, e = .returned (.tuple #[.pointer none, zad f]) /\ zaj w' f zg4 4 /\ Below w.heap.size w w' := by
 obtain ⟨dk, root, keys, writer, rd, poi⟩ := s
 simp only at hp hr
 subst hp
 have hrx : rd ≠ x := hr.ne_blk h
 have h4b : ((ks.length : Int) == 4) = true := by simp; omega
 have h4c : (ks.length : Int) = 4 := by omega
 have HR := zaa hr
 have HL := zaa (zb3 h rfl)
 have HD := zaa h
 clear h hr
 go_enter_defers Tryz.func22, Tryz.ntmps22
 go_wp2_with (first
  | (go_at_call 51; go_loud (
     refine HL.out.mono ?_; rintro e w1 ⟨rfl, hb1, ho1, hs1⟩
     have c5 : w1.cell? ⟨x, 5, none⟩ = some writer := zab hb1 5 rfl
     have c6 : w1.cell? ⟨x, 6, none⟩ = some (.map (some rd)) := zab hb1 6 rfl
     have c7 : w1.cell? ⟨x, 7, none⟩ = some (.bool false) := zab hb1 7 rfl
     have hl := fun ty => zsg (HR.out.only ho1 hrx) ty
     have HB1 := zaa hb1
     have HO1 := zaa ho1
     clear hb1 ho1 hs1))
  | (go_at_call 53; go_loud (
     refine (zb7 _ _ _).mono ?_; rintro e w2 ⟨rfl, hw2⟩
     have hb2 : Below w1.heap.size w1 w2 := by rw [hw2]; exact (Below.refl _ _).alloc (Nat.le_refl _) _
     have hF2 : zaj w2 w1.heap.size zg4 4 := by rw [hw2]; exact Blk.new _ _ _
     unfold zad
     have HF := zaa hF2
     have HB2 := zaa hb2
     clear hw2 hb2 hF2)))
 have hD2 := HB1.out.below HB2.out HB1.out.lt
 have hne : w1.heap.size ≠ x := by have := HB1.out.lt; omega
 refine leaves_cons (f := 52) (args := #[.pointer (some ⟨x, 0, none⟩)]) (by simp) (by simp [go_sem]) ?_
 refine (zbe .returning hD2 rfl).mono ?_
 rintro e u' w4 ⟨rfl, rfl, hb4, ho4, hs4⟩
 exact ⟨_, results_tmp2 rfl _ _ _, w1.heap.size, rfl, Blk.only HF.out ho4 hne, ((HO1.out.below HB2.out).trans ho4).back HD.out hb4⟩
def zmv (n₀ : Nat) (J Jx : List (Str × Str) -> World -> Prop) (pre : List (Str × Str)) (x : Str × Str) (W : World) : Ending -> World -> Prop := fun e W' =>
 (e = .returned (.bool true) /\ J (pre ++ [x]) W' /\ Below n₀ W W') \/ (e = .returned (.bool false) /\ Jx (pre ++ [x]) W')
def zmw (n₀ : Nat) (J Jx : List (Str × Str) -> World -> Prop) (pre xs : List (Str × Str)) (W : World) : Ending -> World -> Prop := fun e W' =>
 (e = .returned (.bool true) /\ J (pre ++ xs) W' /\ Below n₀ W W') \/ (e = .returned (.bool false) /\ ∃ q, q <+: xs /\ Jx (pre ++ q) W')
def zyv (n₀ : Nat) (J : List (Str × Str) -> World -> Prop) (pre xs : List (Str × Str)) (W : World) (N : Nat) (s : Value) (wr : World) : Prop :=
 ∃ k : Nat, k <= N /\ s = .int .i64 k /\ J (pre ++ xs.take k) wr /\ Below n₀ W wr
section
variable {n₀ : Nat} {L : List (Str × Str)} {J Jx : List (Str × Str) -> World -> Prop} {q1 q2 q3 q4 : Nat}
set_option maxHeartbeats 1600000 in
theorem ztg (hJ : ∀ pre W W', J pre W -> Below W.heap.size W W' -> J pre W') (hY : ∀ pre x W, J pre W -> pre ++ [x] <+: L -> n₀ <= W.heap.size -> Calls Tryz.prog 106 #[.agg #[.string x.1, .string x.2], .pointer (some ⟨q1, 0, none⟩), .pointer (some ⟨q2, 0, none⟩), .pointer (some ⟨q3, 0, none⟩), .pointer (some ⟨q4, 0, none⟩)] W (zmv n₀ J Jx pre x W))
   (n : Tr 0) (lo : Str) (b : Nat) (ds : List Nat) (pre : List (Str × Str)) (W : World) (hf : FRep (fun z => z < n₀) W 0 n b ds) (hr : zct (Nd.es n)) (h1 : 1 <= (Nd.es n).length) (hn : (Nd.es n).length <= 400) (hL : pre ++ (Nd.es n).drop (place lo (Nd.es n)) <+: L) (h0 : J pre W) (hn0 : n₀ <= W.heap.size) :
   Calls Tryz.prog 145 #[P b, .string lo, .func (.func 106) #[] #[.pointer (some ⟨q1, 0, none⟩), .pointer (some ⟨q2, 0, none⟩), .pointer (some ⟨q3, 0, none⟩), .pointer (some ⟨q4, 0, none⟩)]] W (zmw n₀ J Jx pre ((Nd.es n).drop (place lo (Nd.es n))) W) := by
 obtain ⟨A1, c1, A2, c2, hnd, hbn, hro, hds⟩ := hf
 have LEAF := zaa (zdu b (Nd.blk n) (Nd.gen n) c2 (Nd.dirty n) _ A2 W hnd.node)
 have PLACE := zaa (zfe n lo b _ W (show Rep W 0 n b ds from ⟨_, _, hnd.node, hnd.ps, hnd.ks, hds⟩) hr (Nat.le_trans hn (by omega)))
 obtain ⟨es, hes⟩ : ∃ es, es = Nd.es n := ⟨_, rfl⟩
 rw [<- hes] at hnd PLACE hr h1 hn hro hL ⊢
 have hat : ∀ wr, Below n₀ W wr -> ∀ j (hj : j < es.length), ∃ g o, A1 = some ⟨g, o, none⟩ /\ wr.cell? ⟨g, o + j * 2, none⟩ = some (.string es[j].1) /\ wr.cell? ⟨g, o + j * 2 + 1, none⟩ = some (.string es[j].2) := by
  intro wr hb j hj
  obtain ⟨g, o, u1, u2, hA, hu1, hu2, hc1, hc2, hgl⟩ := hnd.ps.cells_at (Below.refl W.heap.size W) hj
  have hp := zc6 es j hj
  have e1 := hu1.symm.trans hp.1
  have e2 := hu2.symm.trans hp.2
  injection e1 with e1
  injection e2 with e2
  subst e1; subst e2
  have hg0 : g < n₀ := hro (by omega) _ hA
  exact ⟨g, o, hA, (hb.cell (p := ⟨g, o + j * 2, none⟩) hg0).trans hc1, (hb.cell (p := ⟨g, o + j * 2 + 1, none⟩) hg0).trans hc2⟩
 obtain ⟨g, o, hA, _, _⟩ := hat W (Below.refl _ _) 0 (by omega)
 subst hA
 have hc3 : W.cell? ⟨b, 3, none⟩ = some (.slice (some ⟨g, o, none⟩) es.length c1) := by rw [Blk.cell hnd.node]; rfl
 have hcap : es.length <= c1 /\ c1 <= maxLen := by
  obtain ⟨_, _, _, hv, e1, e2, _⟩ := hnd.ps
  injection hv with _ _ e3
  subst e3
  exact ⟨e1, e2⟩
 have hblt : b < W.heap.size := Blk.lt hnd.node
 have hpl := zdb lo es
 obtain ⟨i, hi⟩ : ∃ i, i = place lo es := ⟨_, rfl⟩
 obtain ⟨th, hth⟩ : ∃ th, th = there lo es := ⟨_, rfl⟩
 rw [<- hi] at PLACE hpl hL ⊢
 rw [<- hth] at PLACE
 obtain ⟨hcap1, hcap2⟩ := hcap
 have hml := hcap2
 unfold maxLen at hml
 have HAT := zaa hat
 have HY := zaa hY
 have HJ := zaa hJ
 have H0 := zaa h0
 have HLEN := zaa (show es.length = i + (es.length - i) by omega)
 have HDL := zaa (show (es.drop i).length = es.length - i by simp)
 have HL := zaa hL
 clear hnd hro hds hat hY hJ h0 hi hth hr hes hL
 have k0 : (0 : Int) <= (i : Int) := by omega
 have k1 : (i : Int) <= (es.length : Int) := by omega
 have k2 : (es.length : Int) <= (c1 : Int) := by omega
 have k3 : (i : Int) <= (c1 : Int) := by omega
 unfold P
 go_enter Tryz.func145, Tryz.ntmps145
 go_upto_region 3 with (first
  | (go_at_call 81; go_loud (refine LEAF.out.mono ?_; rintro e w' ⟨rfl, rfl⟩))
  | (go_at_call 83; go_loud (
     refine PLACE.out.mono ?_; rintro e w2 ⟨rfl, hb2⟩
     have d3 : w2.cell? ⟨b, 3, none⟩ = some (.slice (some ⟨g, o, none⟩) es.length c1) := (hb2.cell hblt).trans hc3
     have HB2 := zaa hb2)))
 go_cut [26, 27, 28] (fun s26 s27 s28 wx => ∃ O, (i < es.length -> O = o + i * 2) /\ s26 = .slice (some ⟨g, O, none⟩) (es.length - i) (c1 - i) /\ s27 = .int .i64 ((es.length - i : Nat) : Int) /\ s28 = .int .i64 0 /\ wx = w2)
 case first =>
  go_wp2
  all_goals
   go_meet
   first
    | exact ⟨o + i * 2, fun _ => rfl, rfl, rfl, rfl, rfl⟩
    | (refine ⟨o, fun h => by omega, ?_, rfl, rfl, rfl⟩; simp; omega)
 case rest =>
 obtain ⟨O, hO, rfl, rfl, rfl, rfl⟩ := hcut
 obtain ⟨N, hN⟩ : ∃ N, N = es.length - i := ⟨_, rfl⟩
 rw [<- hN]
 obtain ⟨C, hC⟩ : ∃ C, C = c1 - i := ⟨_, rfl⟩
 rw [<- hC]
 have HO := zaa hO
 have HN := zaa hN
 have HC := zaa hC
 have hNC : N <= C := by omega
 have hN4 : N <= 400 := by omega
 clear hO hN hC
 go_wp2
 go_loopw [28] (fun s wr => zyv n₀ J pre (es.drop i) W N s wr) (fun s _ => N - (intOf s).toNat)
 case atStart => exact ⟨0, Nat.zero_le _, rfl, by simpa using HJ.out pre _ _ H0.out HB2.out, HB2.out.mono hn0⟩
 case round =>
  obtain ⟨k, hk, rfl, hj, hb⟩ := hrel
  by_cases hlt : k < N
  . have hik : i + k < es.length := by have := HN.out; omega
    obtain ⟨g', o', e1, e2, e3⟩ := HAT.out wr hb (i + k) (by have := HN.out; omega)
    injection e1 with e1
    injection e1 with e1 e4
    subst e1; subst e4
    have hOk := HO.out (by have := HN.out; omega)
    have r1 : wr.cell? ⟨g, O + k * 2, none⟩ = some (.string es[i + k].1) := by rw [hOk, Nat.add_assoc, <- Nat.add_mul]; exact e2
    have r2 : wr.cell? ⟨g, O + k * 2 + 1, none⟩ = some (.string es[i + k].2) := by rw [hOk, Nat.add_assoc o, <- Nat.add_mul]; exact e3
    obtain ⟨x, hx⟩ : ∃ x, x = es[i + k] := ⟨_, rfl⟩
    rw [<- hx] at r1 r2
    have hal : Below wr.heap.size wr (wr.alloc (.cells #[.string x.1, .string x.2] 68)) := (Below.refl _ _).alloc (Nat.le_refl _) _
    have m0 : (0 : Int) <= (k : Int) := by omega
    have m1 : (k : Int) < (N : Int) := by omega
    have hsn : (es.drop i).take (k + 1) = (es.drop i).take k ++ [x] := by
     rw [zif (by rw [List.length_drop]; have := HN.out; omega), hx]
     simp
    have hpx : (pre ++ (es.drop i).take k) ++ [x] <+: L := by
     rw [List.append_assoc, <- hsn]
     exact ((List.prefix_append_right_inj _).2 (List.take_prefix _ _)).trans HL.out
    have YC := zaa (HY.out _ x _ (HJ.out _ _ _ hj hal) hpx (Nat.le_trans hn0 (Nat.le_trans hb.size hal.size)))
    have HSN := zaa hsn
    have HX := zaa hx
    have HBR := zaa hb
    clear hj hb e2 e3 hx hOk hsn hpx
    go_wp2_with (first
     | (go_at_call 106; go_loud (refine YC.out.mono ?_; rintro e w3 (⟨rfl, hj3, hb3⟩ | ⟨rfl, hx3⟩))))
    . go_roundw
      case rel =>
       refine ⟨k + 1, by omega, by go_num, ?_, HBR.out.trans (Below.from_alloc hb3 HBR.out (Nat.le_trans hn0 HBR.out.size))⟩
       rw [HSN.out, <- List.append_assoc]
       exact hj3
      case measure => simp [intOf]; omega
    . go_ret
      right
      refine ⟨rfl, (es.drop i).take k ++ [x], ?_, by rw [<- List.append_assoc]; exact hx3⟩
      rw [<- HSN.out]
      exact List.take_prefix _ _
  . have m1 : ¬ (k : Int) < (N : Int) := by omega
    have hkN : k = N := by omega
    have HBR := zaa hb
    have HJR := zaa hj
    clear hb hj
    go_wp2
    go_ret
    left
    refine ⟨rfl, ?_, HBR.out⟩
    have e : (es.drop i).take k = es.drop i := by rw [List.take_of_length_le]; rw [HDL.out, hkN, HN.out]; omega
    have := HJR.out
    rw [e] at this
    exact this
def zyw (n₀ : Nat) (J : List (Str × Str) -> World -> Prop) (pre : List (Str × Str)) {h : Nat} (es : List (Str × Tr h)) (lo : Str) (W : World) (N : Nat) (s : Value) (wr : World) : Prop :=
 ∃ k : Nat, k <= N /\ s = .int .i64 k /\ J (pre ++ (es.take k).flatMap fun e => Tr.from h e.2 lo) wr /\ Below n₀ W wr
set_option maxHeartbeats 1600000 in
theorem zpf (hJ : ∀ pre W W', J pre W -> Below W.heap.size W W' -> J pre W') {h : Nat} (n : Tr (h + 1)) (lo : Str) (b : Nat) (ds : List Nat) (pre : List (Str × Str)) (W : World) (hf : FRep (fun z => z < n₀) W (h + 1) n b ds) (h1 : 1 <= (Nd.es n).length) (hn : (Nd.es n).length <= 400) (hL : pre ++ Tr.from (h + 1) n lo <+: L) (h0 : J pre W) (hn0 : n₀ <= W.heap.size)
   (IH : ∀ e ∈ Nd.es n, ∀ (bc : Nat) (dc : List Nat) (pre' : List (Str × Str)) (W' : World), FRep (fun z => z < n₀) W' h e.2 bc dc -> pre' ++ Tr.from h e.2 lo <+: L -> J pre' W' -> n₀ <= W'.heap.size -> Calls Tryz.prog 145 #[P bc, .string lo, .func (.func 106) #[] #[.pointer (some ⟨q1, 0, none⟩), .pointer (some ⟨q2, 0, none⟩), .pointer (some ⟨q3, 0, none⟩), .pointer (some ⟨q4, 0, none⟩)]] W' (zmw n₀ J Jx pre' (Tr.from h e.2 lo) W')) :
   Calls Tryz.prog 145 #[P b, .string lo, .func (.func 106) #[] #[.pointer (some ⟨q1, 0, none⟩), .pointer (some ⟨q2, 0, none⟩), .pointer (some ⟨q3, 0, none⟩), .pointer (some ⟨q4, 0, none⟩)]] W (zmw n₀ J Jx pre (Tr.from (h + 1) n lo) W) := by
 obtain ⟨A1, c1, A2, c2, bs, dss, hnd, hbn, hro, hkk, hds⟩ := hf
 have hfr : Tr.from (h + 1) n lo = ((Nd.es n).drop (below lo (Nd.es n))).flatMap fun e => Tr.from h e.2 lo := rfl
 rw [hfr] at hL ⊢
 have hbb := zh9 lo (Nd.es n) h1
 have hbsl := hkk.len.1
 have hdsl := hkk.len.2
 have LEAF := zaa (zed b (Nd.blk n) (Nd.gen n) (Nd.es n).length c2 (Nd.dirty n) _ A2 W hnd.node h1 (by omega))
 have BELOW := zaa (fun q => zfd (Nd.es n) bs lo b (Nd.blk n) (Nd.gen n) c2 (Nd.dirty n) _ A2 (W.drewN q)
  (hnd.move (Agree.of_below (zae (Below.refl W.heap.size W) q) (fun _ hx => hx)) (Blk.lt hnd.node) (rowOk.zero _ _) hnd.ks.row_lt).node
  (hnd.move (Agree.of_below (zae (Below.refl W.heap.size W) q) (fun _ hx => hx)) (Blk.lt hnd.node) (rowOk.zero _ _) hnd.ks.row_lt).ks hbsl h1 (by omega))
 obtain ⟨es, hes⟩ : ∃ es, es = Nd.es n := ⟨_, rfl⟩
 rw [<- hes] at hnd hkk BELOW h1 hn hro hbb hbsl hdsl IH hL ⊢
 have hat : ∀ wr, Below n₀ W wr -> ∀ j (hj : j < es.length), ∃ g o, A2 = some ⟨g, o, none⟩ /\ wr.cell? ⟨g, o + j * 2, none⟩ = some (.string es[j].1) /\ wr.cell? ⟨g, o + j * 2 + 1, none⟩ = some (P (bs[j]'(by omega))) /\ FRep (fun z => z < n₀) wr h es[j].2 (bs[j]'(by omega)) (dss[j]'(by omega)) := by
  intro wr hb j hj
  obtain ⟨g, o, u1, u2, hA, hu1, hu2, hc1, hc2, hgl⟩ := hnd.ks.cells_at (Below.refl W.heap.size W) hj
  have hp := zcp es bs j hj (by omega)
  have e1 := hu1.symm.trans hp.1
  have e2 := hu2.symm.trans hp.2
  injection e1 with e1
  injection e2 with e2
  subst e1; subst e2
  have hg0 : g < n₀ := hro (by omega) _ hA
  exact ⟨g, o, hA, (hb.cell (p := ⟨g, o + j * 2, none⟩) hg0).trans hc1, (hb.cell (p := ⟨g, o + j * 2 + 1, none⟩) hg0).trans hc2, (hkk.at_ j hj (by omega) (by omega)).move (Agree.of_below hb (fun _ hx => hx)) (fun _ hx => hx)⟩
 obtain ⟨g, o, hA, -, -, -⟩ := hat W (Below.refl _ _) 0 (by omega)
 subst hA
 have hc4 : W.cell? ⟨b, 4, none⟩ = some (.slice (some ⟨g, o, none⟩) es.length c2) := by rw [Blk.cell hnd.node]; rfl
 have hcap : es.length <= c2 /\ c2 <= maxLen := by
  obtain ⟨_, _, _, hv, e1, e2, _⟩ := hnd.ks
  injection hv with _ _ e3
  subst e3
  exact ⟨e1, e2⟩
 obtain ⟨i, hi⟩ : ∃ i, i = below lo es := ⟨_, rfl⟩
 rw [<- hi] at BELOW hbb hL ⊢
 obtain ⟨hcap1, hcap2⟩ := hcap
 have hml := hcap2
 unfold maxLen at hml
 have HAT := zaa hat
 have HIH := zaa IH
 have HJ := zaa hJ
 have H0 := zaa h0
 have HDL := zaa (show (es.drop i).length = es.length - i by simp)
 have HL := zaa hL
 clear hnd hkk hro hds hat IH hJ h0 hi hes hfr hL
 have k0 : (0 : Int) <= (i : Int) := by omega
 have k1 : (i : Int) <= (es.length : Int) := by omega
 have k2 : (es.length : Int) <= (c2 : Int) := by omega
 have k3 : (i : Int) < (c2 : Int) := by omega
 have k4 : ¬ i = c2 := by omega
 unfold P
 unfold P at LEAF BELOW
 go_enter Tryz.func145, Tryz.ntmps145
 go_upto_region 10 with (first
  | (go_at_call 81; go_loud (refine LEAF.out.mono ?_; rintro e w' ⟨rfl, rfl⟩)))
 go_quiet (first | (go_at_call 82; exact zcz (BELOW.out _)))
 obtain ⟨Wq, hWq⟩ : ∃ Wq, Wq = W.drewN nq := ⟨_, rfl⟩
 rw [<- hWq]
 have hbq : Below W.heap.size W Wq := by rw [hWq]; exact zae (Below.refl _ _) nq
 have HBQ := zaa hbq
 clear hbq hWq
 obtain ⟨N, hN⟩ : ∃ N, N = es.length - i := ⟨_, rfl⟩
 rw [<- hN]
 obtain ⟨C, hC⟩ : ∃ C, C = c2 - i := ⟨_, rfl⟩
 rw [<- hC]
 have HN := zaa hN
 have HC := zaa hC
 have hNC : N <= C := by omega
 have hN4 : N <= 400 := by omega
 clear hN hC
 go_wp2
 go_loopw [46] (fun s wr => zyw n₀ J pre (es.drop i) lo W N s wr) (fun s _ => N - (intOf s).toNat)
 case atStart => exact ⟨0, Nat.zero_le _, rfl, by simpa using HJ.out pre _ _ H0.out HBQ.out, HBQ.out.mono hn0⟩
 case round =>
  obtain ⟨k, hk, rfl, hj, hb⟩ := hrel
  by_cases hlt : k < N
  . have hik : i + k < es.length := by have := HN.out; omega
    obtain ⟨g', o', e1, e2, e3, hfk⟩ := HAT.out wr hb (i + k) hik
    injection e1 with e1
    injection e1 with e1 e4
    subst e1; subst e4
    have r1 : wr.cell? ⟨g, o + i * 2 + k * 2, none⟩ = some (.string es[i + k].1) := by rw [Nat.add_assoc, <- Nat.add_mul]; exact e2
    have r2 : wr.cell? ⟨g, o + i * 2 + k * 2 + 1, none⟩ = some (P (bs[i + k]'(by omega))) := by rw [Nat.add_assoc o, <- Nat.add_mul]; exact e3
    obtain ⟨x, hx⟩ : ∃ x, x = es[i + k] := ⟨_, rfl⟩
    obtain ⟨bc, hbc⟩ : ∃ bc, bc = bs[i + k]'(by omega) := ⟨_, rfl⟩
    rw [<- hx] at r1 hfk
    rw [<- hbc] at r2 hfk
    have hal : Below wr.heap.size wr (wr.alloc (.cells #[.string x.1, P bc] 139)) := (Below.refl _ _).alloc (Nat.le_refl _) _
    have hzn : n₀ <= wr.heap.size := Nat.le_trans hn0 hb.size
    have m0 : (0 : Int) <= (k : Int) := by omega
    have m1 : (k : Int) < (N : Int) := by omega
    have hsn : (es.drop i).take (k + 1) = (es.drop i).take k ++ [x] := by
     rw [zif (by rw [List.length_drop]; have := HN.out; omega), hx]
     simp
    have hsp : ((es.drop i).take (k + 1)).flatMap (fun e => Tr.from h e.2 lo) = ((es.drop i).take k).flatMap (fun e => Tr.from h e.2 lo) ++ Tr.from h x.2 lo := by rw [hsn]; simp
    have hpf : ((es.drop i).take (k + 1)).flatMap (fun e => Tr.from h e.2 lo) <+: (es.drop i).flatMap (fun e => Tr.from h e.2 lo) := by
     conv => rhs; rw [<- List.take_append_drop (k + 1) (es.drop i)]
     rw [List.flatMap_append]
     exact List.prefix_append _ _
    have hpx : (pre ++ ((es.drop i).take k).flatMap fun e => Tr.from h e.2 lo) ++ Tr.from h x.2 lo <+: L := by
     rw [List.append_assoc, <- hsp]
     exact ((List.prefix_append_right_inj _).2 hpf).trans HL.out
    have YC := zaa (HIH.out x (by rw [hx]; exact List.getElem_mem _) bc _ _ _ (hfk.below hal (fun _ h => h)) hpx (HJ.out _ _ _ hj hal) (Nat.le_trans hzn hal.size))
    have HSP := zaa hsp
    have HPF := zaa hpf
    have HX := zaa hx
    have HBC := zaa hbc
    have HBR := zaa hb
    clear hj hb e2 e3 hx hbc hsn hsp hpf hfk hpx
    unfold P at r2 YC
    go_wp2_with (first
     | (go_at_call 145; go_loud (refine YC.out.mono ?_; rintro e w3 (⟨rfl, hj3, hb3⟩ | ⟨rfl, q, hq, hx3⟩))))
    . go_roundw
      case rel =>
       refine ⟨k + 1, by omega, by go_num, ?_, HBR.out.trans (Below.from_alloc hb3 HBR.out hzn)⟩
       rw [HSP.out, <- List.append_assoc]
       exact hj3
      case measure => simp [intOf]; omega
    . go_ret
      right
      refine ⟨rfl, ((es.drop i).take k).flatMap (fun e => Tr.from h e.2 lo) ++ q, ?_, by rw [<- List.append_assoc]; exact hx3⟩
      refine List.IsPrefix.trans ?_ HPF.out
      rw [HSP.out]
      exact (List.prefix_append_right_inj _).2 hq
  . have m1 : ¬ (k : Int) < (N : Int) := by omega
    have hkN : k = N := by omega
    have HBR := zaa hb
    have HJR := zaa hj
    clear hb hj
    go_wp2
    go_ret
    left
    refine ⟨rfl, ?_, HBR.out⟩
    have e : (es.drop i).take k = es.drop i := by rw [List.take_of_length_le]; rw [HDL.out, hkN, HN.out]; omega
    have := HJR.out
    rw [e] at this
    exact this
theorem zn7 (hJ : ∀ pre W W', J pre W -> Below W.heap.size W W' -> J pre W') (hY : ∀ pre x W, J pre W -> pre ++ [x] <+: L -> n₀ <= W.heap.size -> Calls Tryz.prog 106 #[.agg #[.string x.1, .string x.2], .pointer (some ⟨q1, 0, none⟩), .pointer (some ⟨q2, 0, none⟩), .pointer (some ⟨q3, 0, none⟩), .pointer (some ⟨q4, 0, none⟩)] W (zmv n₀ J Jx pre x W)) (lo : Str) :
   ∀ (h : Nat) (lo0 : Str) (hi0 : Option Str) (n : Tr h) (b : Nat) (ds : List Nat) (pre : List (Str × Str)) (W : World), WF h lo0 hi0 n -> Top h n -> (Tr.pairs h n).length <= 150 -> FRep (fun z => z < n₀) W h n b ds -> pre ++ Tr.from h n lo <+: L -> J pre W -> n₀ <= W.heap.size ->
   Calls Tryz.prog 145 #[P b, .string lo, .func (.func 106) #[] #[.pointer (some ⟨q1, 0, none⟩), .pointer (some ⟨q2, 0, none⟩), .pointer (some ⟨q3, 0, none⟩), .pointer (some ⟨q4, 0, none⟩)]] W (zmw n₀ J Jx pre (Tr.from h n lo) W)
 | 0, lo0, hi0, n, b, ds, pre, W, hw, ht, hp, hf, hL, h0, hn0 => ztg hJ hY n lo b ds pre W hf hw.1 ht (Nat.le_trans hp (by omega)) hL h0 hn0
 | h + 1, lo0, hi0, n, b, ds, pre, W, hw, ht, hp, hf, hL, h0, hn0 => by
   obtain ⟨f1, f2, _⟩ := zdh (h + 1) lo0 hi0 n hw ht
   refine zpf hJ n lo b ds pre W hf f1 (Nat.le_trans f2 (by omega)) hL h0 hn0 ?_
   intro e he bc dc pre' W' hf' hL' hj' hn'
   obtain ⟨⟨hi', w1⟩, _⟩ := zc7 (show Chain (WF h) lo0 hi0 (Nd.es n) from hw) e he
   exact zn7 hJ hY lo h e.1 hi' e.2 bc dc pre' W' w1 (zdj ht e he) (Nat.le_trans (zdv (es := Nd.es n) e he) hp) hf' hL' hj' hn'
theorem zym (hJ : ∀ pre W W', J pre W -> Below W.heap.size W W' -> J pre W') (hY : ∀ pre x W, J pre W -> pre ++ [x] <+: L -> n₀ <= W.heap.size -> Calls Tryz.prog 106 #[.agg #[.string x.1, .string x.2], .pointer (some ⟨q1, 0, none⟩), .pointer (some ⟨q2, 0, none⟩), .pointer (some ⟨q3, 0, none⟩), .pointer (some ⟨q4, 0, none⟩)] W (zmv n₀ J Jx pre x W))
   (t : Tree) (rp : Value) (ds : List Nat) (lo : Str) (W : World) (hv : TreeV (fun z => z < n₀) W t rp ds) (ht : TR t) (hp : t.pairs.length <= 150) (hL : za5 t lo <+: L) (h0 : J [] W) (hn0 : n₀ <= W.heap.size) :
   Calls Tryz.prog 105 #[zav rp t.keys, .string lo, .func (.func 106) #[] #[.pointer (some ⟨q1, 0, none⟩), .pointer (some ⟨q2, 0, none⟩), .pointer (some ⟨q3, 0, none⟩), .pointer (some ⟨q4, 0, none⟩)]] W fun e W' => e = .returned (.tuple #[]) /\ ((J (za5 t lo) W' /\ Below n₀ W W') \/ ∃ q, q <+: za5 t lo /\ Jx q W') := by
 have hb0 : Below W.heap.size W (W.alloc (.cells #[rp, .int .i64 t.keys] 88)) := (Below.refl _ _).alloc (Nat.le_refl _) _
 rcases hv with ⟨hr, rfl, rfl⟩ | ⟨h, n, b, hr, rfl, hf⟩
 . have hfk : za5 t lo = [] := by unfold za5 Tree.pairs; rw [hr]; simp
   rw [hfk]
   have HJ := zaa (hJ [] _ _ h0 hb0)
   have HB := zaa hb0
   clear hJ hY h0 hb0
   unfold zav
   go_enter Tryz.func105, Tryz.ntmps105
   go_wp2
   go_end0
   exact ⟨rfl, .inl ⟨HJ.out, HB.out.mono hn0⟩⟩
 . have hfk : za5 t lo = Tr.from h n lo := by
     have hpp : t.pairs = Tr.pairs h n := by unfold Tree.pairs; rw [hr]
     unfold za5
     rw [hpp, zkm h zba none n lo (ht.tw.some_ h n hr) (za3 lo)]
   rw [hfk] at hL ⊢
   have hpp : t.pairs = Tr.pairs h n := by unfold Tree.pairs; rw [hr]
   have HE := zaa (zn7 hJ hY lo h zba none n b ds [] _ (ht.tw.some_ h n hr) (ht.top h n hr) (by rw [<- hpp]; exact hp) (hf.below hb0 (fun _ h => h)) hL (hJ [] _ _ h0 hb0) (Nat.le_trans hn0 hb0.size))
   have HB := zaa hb0
   clear hJ hY h0 hb0 hf
   unfold zav P
   unfold P at HE
   go_enter Tryz.func105, Tryz.ntmps105
   go_wp2_with (go_at_call 145; go_loud (refine HE.out.mono ?_; rintro e w3 (⟨rfl, hj3, hb3⟩ | ⟨rfl, q, hq, hx3⟩)))
   . go_end0
     exact ⟨rfl, .inl ⟨hj3, (HB.out.mono hn0).trans hb3⟩⟩
   . go_end0
     exact ⟨rfl, .inr ⟨q, hq, hx3⟩⟩
end
def afterV (more : Bool) (key : Str) : List (Str × Str) -> Option (Str × Str)
 | [] => none
 | e :: l => if more && seq e.1 key then afterV more key l else some e
def rK : Option (Str × Str) -> Str
 | some e => e.1
 | none => ByteArray.empty
def rV : Option (Str × Str) -> Str
 | some e => e.2
 | none => ByteArray.empty
def zao (r : Option (Str × Str)) : Value := .agg #[.string (rK r), .string (rV r)]
structure AfAt (n₀ : Nat) (q1 q2 q3 q4 : Nat) (more : Bool) (key : Str) (r : Option (Str × Str)) (W : World) : Prop where
 b1 : Blk W q1 4 #[.bool more]
 b2 : Blk W q2 9 #[.string key]
 b3 : Blk W q3 68 #[.string (rK r), .string (rV r)]
 b4 : Blk W q4 4 #[.bool r.isSome]
 low : n₀ <= q1 /\ n₀ <= q2 /\ n₀ <= q3 /\ n₀ <= q4 /\ q1 ≠ q4
theorem AfAt.below {n₀ q1 q2 q3 q4 : Nat} {more : Bool} {key : Str} {r : Option (Str × Str)} {W W' : World} (h : AfAt n₀ q1 q2 q3 q4 more key r W) (hb : Below W.heap.size W W') : AfAt n₀ q1 q2 q3 q4 more key r W' :=
 ⟨h.b1.below hb h.b1.lt, h.b2.below hb h.b2.lt, h.b3.below hb h.b3.lt, h.b4.below hb h.b4.lt, h.low⟩
def AfJ (n₀ q1 q2 q3 q4 : Nat) (more : Bool) (key : Str) (W0 : World) (pre : List (Str × Str)) (W : World) : Prop := AfAt n₀ q1 q2 q3 q4 more key none W /\ (∀ x ∈ pre, (more && seq x.1 key) = true) /\ Below n₀ W0 W
def AfX (n₀ q1 q2 q3 q4 : Nat) (more : Bool) (key : Str) (W0 : World) (pre : List (Str × Str)) (W : World) : Prop := ∃ l x, pre = l ++ [x] /\ (∀ x ∈ l, (more && seq x.1 key) = true) /\ (more && seq x.1 key) = false /\ AfAt n₀ q1 q2 q3 q4 more key (some x) W /\ Below n₀ W0 W
theorem zrm {more : Bool} {key : Str} {l : List (Str × Str)} (h : ∀ x ∈ l, (more && seq x.1 key) = true) : afterV more key l = none := by
 induction l with
 | nil => rfl
 | cons a l ih =>
   unfold afterV
   rw [if_pos (h a (by simp))]
   exact ih fun x hx => h x (by simp [hx])
theorem zpg {more : Bool} {key : Str} {l r : List (Str × Str)} {x : Str × Str} (h : ∀ x ∈ l, (more && seq x.1 key) = true) (hx : (more && seq x.1 key) = false) : afterV more key (l ++ x :: r) = some x := by
 induction l with
 | nil =>
   show afterV more key (x :: r) = some x
   unfold afterV
   rw [hx]; rfl
 | cons a l ih =>
   show afterV more key (a :: (l ++ x :: r)) = some x
   unfold afterV
   rw [if_pos (h a (by simp))]
   exact ih fun x hx => h x (by simp [hx])
set_option maxHeartbeats 1600000 in
theorem zrn (n₀ q1 q2 q3 q4 : Nat) (more : Bool) (key : Str) (W0 : World) (pre : List (Str × Str)) (x : Str × Str) (W : World) (h : AfJ n₀ q1 q2 q3 q4 more key W0 pre W) (hn0 : n₀ <= W.heap.size) :
   Calls Tryz.prog 106 #[.agg #[.string x.1, .string x.2], .pointer (some ⟨q1, 0, none⟩), .pointer (some ⟨q2, 0, none⟩), .pointer (some ⟨q3, 0, none⟩), .pointer (some ⟨q4, 0, none⟩)] W
    (zmv n₀ (AfJ n₀ q1 q2 q3 q4 more key W0) (AfX n₀ q1 q2 q3 q4 more key W0) pre x W) := by
 obtain ⟨h1, h2, h3⟩ := h
 obtain ⟨x1, x2⟩ := x
 have hb0 : Below W.heap.size W (W.alloc (.cells #[.string x1, .string x2] 68)) := (Below.refl _ _).alloc (Nat.le_refl _) _
 obtain ⟨W1, hW1⟩ : ∃ W1, W1 = W.alloc (.cells #[.string x1, .string x2] 68) := ⟨_, rfl⟩
 rw [<- hW1] at hb0
 have hx := hW1 ▸ Blk.new W 68 #[.string x1, .string x2]
 have g1 := h1.below hb0
 have c1 : W1.cell? ⟨q1, 0, none⟩ = some (.bool more) := by rw [g1.b1.cell]; rfl
 have c2 : W1.cell? ⟨q2, 0, none⟩ = some (.string key) := by rw [g1.b2.cell]; rfl
 have c3 : W1.cell? ⟨q3, 0, none⟩ = some (.string ByteArray.empty) := by rw [g1.b3.cell]; rfl
 have c4 : W1.cell? ⟨q3, 1, none⟩ = some (.string ByteArray.empty) := by rw [g1.b3.cell]; rfl
 have c5 : W1.cell? ⟨q4, 0, none⟩ = some (.bool false) := by rw [g1.b4.cell]; rfl
 have z3 : W1.frozen? ⟨q3, 0, none⟩ = false := g1.b3.frozen 0
 have z4 : W1.frozen? ⟨q3, 1, none⟩ = false := g1.b3.frozen 1
 have z5 : W1.frozen? ⟨q4, 0, none⟩ = false := g1.b4.frozen 0
 have y1 : W1.cell? ⟨W.heap.size, 0, none⟩ = some (.string x1) := by rw [hx.cell]; rfl
 have y2 : W1.cell? ⟨W.heap.size, 1, none⟩ = some (.string x2) := by rw [hx.cell]; rfl
 have n43 : ¬ q4 = q3 := g1.b4.ne_ g1.b3 (by decide)
 have n34 : ¬ q3 = q4 := g1.b3.ne_ g1.b4 (by decide)
 have G1 := zaa g1
 have HB0 := zaa hb0
 have H2 := zaa h2
 have H3 := zaa h3
 clear h1 h2 h3 hb0 hx g1
 subst hW1
 have hne : ∀ y, y = q3 \/ y = q4 -> n₀ <= y := by rintro y (rfl | rfl); exact G1.out.low.2.2.1; exact G1.out.low.2.2.2.1
 cases hm : (more && seq x1 key) with
 | true =>
   obtain ⟨rfl, hk⟩ : more = true /\ seq x1 key = true := by simpa using hm
   unfold seq at hk
   have HM := zaa hm
   clear hm
   go_enter Tryz.func106, Tryz.ntmps106
   go_wp2
   go_ret
   left
   refine ⟨rfl, ⟨G1.out, ?_, (H3.out.trans (HB0.out.mono hn0))⟩, HB0.out.mono hn0⟩
   intro x hx
   rcases List.mem_append.1 hx with hx | hx
   . exact H2.out x hx
   . rw [List.mem_singleton.1 hx]; exact HM.out
 | false =>
   have hgo : more = false \/ (more = true /\ seq x1 key = false) := by
    cases more
    . exact .inl rfl
    . exact .inr ⟨rfl, by simpa using hm⟩
   have HM := zaa hm
   clear hm
   rcases hgo with rfl | ⟨rfl, hk⟩
   . go_enter Tryz.func106, Tryz.ntmps106
     go_wp2
     go_ret
     right
     refine ⟨rfl, pre, (x1, x2), rfl, H2.out, HM.out, ?_, (H3.out.trans (HB0.out.mono hn0)).trans ?_⟩
     . refine ⟨((G1.out.b1.far (p := ⟨q3, 0, none⟩) (G1.out.b1.ne_ G1.out.b3 (by decide)) _).far (p := ⟨q3, 1, none⟩) (G1.out.b1.ne_ G1.out.b3 (by decide)) _).far (p := ⟨q4, 0, none⟩) G1.out.low.2.2.2.2 _, ((G1.out.b2.far (p := ⟨q3, 0, none⟩) (G1.out.b2.ne_ G1.out.b3 (by decide)) _).far (p := ⟨q3, 1, none⟩) (G1.out.b2.ne_ G1.out.b3 (by decide)) _).far (p := ⟨q4, 0, none⟩) (G1.out.b2.ne_ G1.out.b4 (by decide)) _,
      ((G1.out.b3.set_ 0 _).set_ 1 _).far (p := ⟨q4, 0, none⟩) n34 _, ((G1.out.b4.far (p := ⟨q3, 0, none⟩) n43 _).far (p := ⟨q3, 1, none⟩) n43 _).set_ 0 _, G1.out.low⟩
     . exact (((Below.refl n₀ _).setCell (p := ⟨q3, 0, none⟩) (hne _ (.inl rfl)) _).setCell (p := ⟨q3, 1, none⟩) (hne _ (.inl rfl)) _).setCell (p := ⟨q4, 0, none⟩) (hne _ (.inr rfl)) _
   . unfold seq at hk
     go_enter Tryz.func106, Tryz.ntmps106
     go_wp2
     go_ret
     right
     refine ⟨rfl, pre, (x1, x2), rfl, H2.out, HM.out, ?_, (H3.out.trans (HB0.out.mono hn0)).trans ?_⟩
     . refine ⟨((G1.out.b1.far (p := ⟨q3, 0, none⟩) (G1.out.b1.ne_ G1.out.b3 (by decide)) _).far (p := ⟨q3, 1, none⟩) (G1.out.b1.ne_ G1.out.b3 (by decide)) _).far (p := ⟨q4, 0, none⟩) G1.out.low.2.2.2.2 _, ((G1.out.b2.far (p := ⟨q3, 0, none⟩) (G1.out.b2.ne_ G1.out.b3 (by decide)) _).far (p := ⟨q3, 1, none⟩) (G1.out.b2.ne_ G1.out.b3 (by decide)) _).far (p := ⟨q4, 0, none⟩) (G1.out.b2.ne_ G1.out.b4 (by decide)) _,
      ((G1.out.b3.set_ 0 _).set_ 1 _).far (p := ⟨q4, 0, none⟩) n34 _, ((G1.out.b4.far (p := ⟨q3, 0, none⟩) n43 _).far (p := ⟨q3, 1, none⟩) n43 _).set_ 0 _, G1.out.low⟩
     . exact (((Below.refl n₀ _).setCell (p := ⟨q3, 0, none⟩) (hne _ (.inl rfl)) _).setCell (p := ⟨q3, 1, none⟩) (hne _ (.inl rfl)) _).setCell (p := ⟨q4, 0, none⟩) (hne _ (.inr rfl)) _
theorem zth {n₀ q1 q2 q3 q4 : Nat} {more : Bool} {key : Str} {W0 W W' : World} {l : List (Str × Str)} (h : (AfJ n₀ q1 q2 q3 q4 more key W0 l W' /\ Below n₀ W W') \/ ∃ q, q <+: l /\ AfX n₀ q1 q2 q3 q4 more key W0 q W') :
   AfAt n₀ q1 q2 q3 q4 more key (afterV more key l) W' /\ Below n₀ W0 W' := by
 rcases h with ⟨⟨h1, h2, h3⟩, _⟩ | ⟨q, ⟨r, rfl⟩, l, x, rfl, h1, h2, h3, h4⟩
 . rw [zrm h2]; exact ⟨h1, h3⟩
 . rw [List.append_assoc, List.singleton_append, zpg h1 h2]; exact ⟨h3, h4⟩
set_option maxHeartbeats 1600000 in
theorem zii {ok : Nat -> Prop} (t : Tree) (rp : Value) (ds : List Nat) (key : Str) (more : Bool) (w : World) (hv : TreeV ok w t rp ds) (ht : TR t) (hp : t.pairs.length <= 150) :
   Calls Tryz.prog 69 #[zav rp t.keys, .string key, .bool more] w fun e w' => e = .returned (.tuple #[zao (afterV more key (za5 t key)), .bool (afterV more key (za5 t key)).isSome]) /\ Below w.heap.size w w' := by
 obtain ⟨W5, hW5⟩ : ∃ W5, W5 = (((((w.alloc (.cells #[rp, .int .i64 t.keys] 88)).alloc (.cells #[.string key] 9)).alloc (.cells #[.bool more] 4)).alloc (.cells #[.string ⟨#[]⟩, .string ⟨#[]⟩] 68)).alloc (.cells #[.bool false] 4)) := ⟨_, rfl⟩
 have hb5 : Below w.heap.size w W5 := by
  rw [hW5]
  exact (((((Below.refl w.heap.size w).alloc (by simp) _).alloc (by simp) _).alloc (by simp; omega) _).alloc (by simp; omega) _).alloc (by simp; omega) _
 have b2 : Blk W5 (w.heap.size + 1) 9 #[.string key] := by
  rw [hW5]
  exact (((Blk.new2 w _ _ _).alloc _).alloc _).alloc _
 have b1 : Blk W5 (w.heap.size + 1 + 1) 4 #[.bool more] := by
  rw [hW5]
  have := Blk.new2 (w.alloc (.cells #[rp, .int .i64 t.keys] 88)) (.cells #[.string key] 9) 4 #[.bool more]
  rw [World.size_alloc] at this
  exact (this.alloc _).alloc _
 have b3 : Blk W5 (w.heap.size + 1 + 1 + 1) 68 #[.string ⟨#[]⟩, .string ⟨#[]⟩] := by
  rw [hW5]
  have := Blk.new2 ((w.alloc (.cells #[rp, .int .i64 t.keys] 88)).alloc (.cells #[.string key] 9)) (.cells #[.bool more] 4) 68 #[.string ⟨#[]⟩, .string ⟨#[]⟩]
  simp only [World.size_alloc] at this
  exact this.alloc _
 have b4 : Blk W5 (w.heap.size + 1 + 1 + 1 + 1) 4 #[.bool false] := by
  rw [hW5]
  have := Blk.new2 (((w.alloc (.cells #[rp, .int .i64 t.keys] 88)).alloc (.cells #[.string key] 9)).alloc (.cells #[.bool more] 4)) (.cells #[.string ⟨#[]⟩, .string ⟨#[]⟩] 68) 4 #[.bool false]
  simp only [World.size_alloc] at this
  exact this
 have haf : AfJ w.heap.size (w.heap.size + 1 + 1) (w.heap.size + 1) (w.heap.size + 1 + 1 + 1) (w.heap.size + 1 + 1 + 1 + 1) more key w [] W5 := ⟨⟨b1, b2, b3, b4, by omega, by omega, by omega, by omega, by omega⟩, (fun x hx => by cases hx), hb5⟩
 have hv5 : TreeV (fun z => z < w.heap.size) W5 t rp ds := by
  rcases hv with h | ⟨h, n, b, e1, e2, e3⟩
  . exact .inl h
  . exact .inr ⟨h, n, b, e1, e2, e3.lt.move (Agree.of_below hb5 (fun _ hx => hx.2)) (fun _ hx => hx.2)⟩
 have HE := zaa (zym (J := AfJ w.heap.size (w.heap.size + 1 + 1) (w.heap.size + 1) (w.heap.size + 1 + 1 + 1) (w.heap.size + 1 + 1 + 1 + 1) more key w) (Jx := AfX w.heap.size (w.heap.size + 1 + 1) (w.heap.size + 1) (w.heap.size + 1 + 1 + 1) (w.heap.size + 1 + 1 + 1 + 1) more key w)
  (fun pre W W' h hb => ⟨h.1.below hb, h.2.1, h.2.2.trans (hb.mono h.2.2.size)⟩) (fun pre x W h _ hn => zrn _ _ _ _ _ more key w pre x W h hn) t rp ds key W5 hv5 ht hp (List.prefix_refl _) haf hb5.size)
 have HW5 := zaa hW5
 clear hv ht hp hb5 b1 b2 b3 b4 haf hv5 hW5
 unfold zav at HE ⊢
 obtain ⟨r, hr⟩ : ∃ r, r = afterV more key (za5 t key) := ⟨_, rfl⟩
 rw [<- hr]
 have HR := zaa hr
 clear hr
 go_enter Tryz.func69, Tryz.ntmps69
 go_upto_region 2 with (go_at_call 105; go_loud (
  rw [<- HW5.out]
  refine HE.out.mono ?_; rintro e w2 ⟨rfl, hend⟩
  obtain ⟨hat, hbw⟩ := zth hend
  rw [<- HR.out] at hat
  have c3 : w2.cell? ⟨w.heap.size + 1 + 1 + 1, 0, none⟩ = some (.string (rK r)) := by rw [hat.b3.cell]; rfl
  have c4 : w2.cell? ⟨w.heap.size + 1 + 1 + 1, 1, none⟩ = some (.string (rV r)) := by rw [hat.b3.cell]; rfl
  have c5 : w2.cell? ⟨w.heap.size + 1 + 1 + 1 + 1, 0, none⟩ = some (.bool r.isSome) := by rw [hat.b4.cell]; rfl
  have z3 : w2.frozen? ⟨w.heap.size + 1 + 1 + 1, 0, none⟩ = false := hat.b3.frozen 0
  have z4 : w2.frozen? ⟨w.heap.size + 1 + 1 + 1, 1, none⟩ = false := hat.b3.frozen 1
  have z5 : w2.frozen? ⟨w.heap.size + 1 + 1 + 1 + 1, 0, none⟩ = false := hat.b4.frozen 0
  have HAT := zaa hat
  have HBW := zaa hbw
  clear hat hbw hend))
 have n43 : ¬ w.heap.size + 1 + 1 + 1 + 1 = w.heap.size + 1 + 1 + 1 := by omega
 go_region
 go_wp2
 have hz := HBW.out.size
 obtain ⟨WE, hWE⟩ : ∃ WE, WE = (((w2.setCell ⟨w.heap.size + 1 + 1 + 1, 0, none⟩ (.string (rK r))).setCell ⟨w.heap.size + 1 + 1 + 1, 1, none⟩ (.string (rV r))).setCell ⟨w.heap.size + 1 + 1 + 1 + 1, 0, none⟩ (.bool r.isSome)) := ⟨_, rfl⟩
 rw [<- hWE]
 have g3 : Blk WE (w.heap.size + 1 + 1 + 1) 68 #[.string (rK r), .string (rV r)] := by
  rw [hWE]; exact ((HAT.out.b3.set_ 0 _).set_ 1 _).far (by show w.heap.size + 1 + 1 + 1 ≠ w.heap.size + 1 + 1 + 1 + 1; omega) _
 have g4 : Blk WE (w.heap.size + 1 + 1 + 1 + 1) 4 #[.bool r.isSome] := by
  rw [hWE]; exact ((HAT.out.b4.far (p := ⟨w.heap.size + 1 + 1 + 1, 0, none⟩) (by show w.heap.size + 1 + 1 + 1 + 1 ≠ w.heap.size + 1 + 1 + 1; omega) _).far (p := ⟨w.heap.size + 1 + 1 + 1, 1, none⟩) (by show w.heap.size + 1 + 1 + 1 + 1 ≠ w.heap.size + 1 + 1 + 1; omega) _).set_ 0 _
 have r0 : WE.cell? ⟨w.heap.size + 1 + 1 + 1, 0, none⟩ = some (.string (rK r)) := by rw [g3.cell]; rfl
 have r1 : WE.cell? ⟨w.heap.size + 1 + 1 + 1, 1, none⟩ = some (.string (rV r)) := by rw [g3.cell]; rfl
 have r2 : WE.cell? ⟨w.heap.size + 1 + 1 + 1 + 1, 0, none⟩ = some (.bool r.isSome) := by rw [g4.cell]; rfl
 have hbE : Below w.heap.size w WE := by
  rw [hWE]
  exact ((HBW.out.setCell (p := ⟨w.heap.size + 1 + 1 + 1, 0, none⟩) (by show w.heap.size <= w.heap.size + 1 + 1 + 1; omega) _).setCell (p := ⟨w.heap.size + 1 + 1 + 1, 1, none⟩) (by show w.heap.size <= w.heap.size + 1 + 1 + 1; omega) _).setCell (p := ⟨w.heap.size + 1 + 1 + 1 + 1, 0, none⟩) (by show w.heap.size <= w.heap.size + 1 + 1 + 1 + 1; omega) _
 exact bodyPost_ret (v := .tuple #[zao r, .bool r.isSome]) (by unfold zao; simp [results, Tryz.results69, go_sem, r0, r1, r2]) rfl ⟨rfl, hbE.drew⟩
end Go.Proofs.YtemondlgcmpbbaaGreatDoor
