/- Walks: cursors: Cursor, move. -/
import Derived.Test.YtemondlgcmpbbaaGreatDoorMV09
import Derived.Test.YtemondlgcmpbbaaGreatDoorMV24
import Derived.Test.YtemondlgcmpbbaaGreatDoorMV25
import Derived.Test.YtemondlgcmpbbaaGreatDoorMV21
import Derived.OwnWalk
import Derived.RegionTactic
import Derived.BigRegion
namespace Go.Proofs.YtemondlgcmpbbaaGreatDoor
open Go.RowKit
set_option maxRecDepth 100000
def zbj (w : World) (c t : Nat) (key : Str) (on : Bool) (stamp : Int) : Prop := Blk w c 118 #[.pointer (some ⟨t, 0, none⟩), .string key, .bool on, .int .i64 stamp]
def zho : ByteArray := ⟨#[99, 117, 114, 115, 111, 114]⟩
set_option maxHeartbeats 1000000 in
theorem zro (t x : Nat) (τ : TxS) (s : DbS) (w : World) (hT : TxAt w t τ) (hD : DbAt w x s) (hx : τ.db = x) (q : Option Addr) (hroot : τ.root = .pointer q) :
   Calls Tryz.prog 42 #[.pointer (some ⟨t, 0, none⟩)] w fun e w' => Below w.heap.size w w' /\
    ((mayC s.poi τ.done false τ.write = 0 /\ ∃ c, e = .returned (.tuple #[.pointer (some ⟨c, 0, none⟩), .nilIface]) /\ zbj w' c t ⟨#[]⟩ false 0 /\ w.heap.size <= c) \/
     (mayC s.poi τ.done false τ.write ≠ 0 /\ ∃ f, e = .returned (.tuple #[.pointer none, zad f]) /\ zaj w' f zho (mayC s.poi τ.done false τ.write) /\ w.heap.size <= f)) := by
 have HS := zaa (zpt t x τ s zho w hT hD hx q hroot)
 unfold zho at HS ⊢
 rw [hroot] at HS
 have HD := zaa hD
 clear hT hD
 go_enter Tryz.func42, Tryz.ntmps42
 go_wp2_with (go_at_call 66; go_loud (
  refine HS.out.mono ?_; rintro e w1 ⟨v, rfl, hv, hd1, ht1, ho1⟩
  have hb1 := ho1.back HD.out hd1
  have HB1 := zaa hb1
  clear hb1 hd1 ht1 ho1
  rcases hv with ⟨h0, rfl⟩ | ⟨h0, f, rfl, hf, hlf⟩
  all_goals (have H0 := zaa h0; clear h0)
  all_goals (try unfold zad)
  all_goals (try (have HF := zaa hf; have HLF := zaa hlf; clear hf hlf))))
 . go_ret2
   have hn := Blk.new2 w1 (.cells #[.pointer q, .int .i64 τ.keys] 88) 118 #[.pointer (some ⟨t, 0, none⟩), .string ⟨#[]⟩, .bool false, .int .i64 0]
   exact ⟨(HB1.out.alloc HB1.out.size _).alloc (by have := HB1.out.size; simp; omega) _, .inl ⟨H0.out, _, rfl, hn, by have := HB1.out.size; omega⟩⟩
 . go_ret2
   exact ⟨HB1.out.alloc HB1.out.size _, .inr ⟨H0.out, f, rfl, Blk.alloc HF.out _, HLF.out⟩⟩
def zyx (c t _x : Nat) (τ : TxS) (s : DbS) (op : Str) (from_ on : Bool) (stamp : Int) (res : Option (Str × Str)) (w : World) : Ending -> World -> Prop := fun e w' =>
 (mayC s.poi τ.done false τ.write ≠ 0 /\ Below w.heap.size w w' /\ ∃ f, e = .returned (.tuple #[zao none, .bool false, zad f]) /\ zaj w' f op (mayC s.poi τ.done false τ.write) /\ w.heap.size <= f) \/
 (mayC s.poi τ.done false τ.write = 0 /\ (from_ = true /\ (on = false \/ stamp ≠ τ.stamp)) /\ Below w.heap.size w w' /\ ∃ f, e = .returned (.tuple #[zao none, .bool false, zad f]) /\ zaj w' f op 11 /\ w.heap.size <= f) \/
 (mayC s.poi τ.done false τ.write = 0 /\ ¬ (from_ = true /\ (on = false \/ stamp ≠ τ.stamp)) /\ e = .returned (.tuple #[zao res, .bool res.isSome, .nilIface]) /\ zbj w' c t (rK res) res.isSome τ.stamp /\ Only (· = c) w w')
section
variable (c t x : Nat) (τ : TxS) (s : DbS) (op key : Str) (from_ on : Bool) (stamp : Int) (lf : FuncId) (caps : Array Value) (w : World) (hC : zbj w c t key on stamp) (hT : TxAt w t τ) (hD : DbAt w x s) (hx : τ.db = x)
include hC hT hD hx
set_option maxHeartbeats 2000000 in
theorem zrp (n : Nat) (h0 : mayC s.poi τ.done false τ.write = n) (hn : n ≠ 0) :
   Calls Tryz.prog 67 #[.pointer (some ⟨c, 0, none⟩), .string op, .bool from_, .func (.func lf) #[] caps] w fun e w' => Below w.heap.size w w' /\ ∃ f, e = .returned (.tuple #[zao none, .bool false, zad f]) /\ zaj w' f op n /\ w.heap.size <= f := by
 obtain ⟨W0, hW0⟩ : ∃ W0, W0 = w.alloc (.cells #[.string ⟨#[]⟩, .string ⟨#[]⟩] 68) := ⟨_, rfl⟩
 have hb0 : Below w.heap.size w W0 := by rw [hW0]; exact (Below.refl _ _).alloc (Nat.le_refl _) _
 have hx0 : Blk W0 w.heap.size 68 #[.string ⟨#[]⟩, .string ⟨#[]⟩] := by rw [hW0]; exact Blk.new _ _ _
 have hD0 : DbAt W0 x s := Blk.below hD hb0 (Blk.lt hD)
 have hT0 : TxAt W0 t τ := Blk.below hT hb0 (Blk.lt hT)
 have hC0 : zbj W0 c t key on stamp := Blk.below hC hb0 (Blk.lt hC)
 have c0 : W0.cell? ⟨c, 0, none⟩ = some (.pointer (some ⟨t, 0, none⟩)) := zab hC0 0 rfl
 have t0 : W0.cell? ⟨t, 0, none⟩ = some (.pointer (some ⟨x, 0, none⟩)) := by rw [<- hx]; exact zab hT0 0 rfl
 have htx : t ≠ x := Blk.ne_ hT hD (by decide)
 have hcx : c ≠ x := Blk.ne_ hC hD (by decide)
 have hbx : w.heap.size ≠ x := by have := Blk.lt hD; omega
 have HL := zaa (zb3 hD0 rfl)
 have HXL := zaa (Blk.lt hD)
 have HTL := zaa (Blk.lt hT)
 have HCL := zaa (Blk.lt hC)
 have HT := zaa hT0
 have HC := zaa hC0
 have HD0 := zaa hD
 have HC0 := zaa hC
 have HD := zaa hD0
 have HX := zaa hx0
 have HB0 := zaa hb0
 have H0 := zaa h0
 have HN := zaa hn
 clear hT hC hD h0 hn hb0 hx0 hD0 hT0 hC0
 subst hW0
 go_enter_defers Tryz.func67, Tryz.ntmps67
 go_wp2_with (first
  | (go_at_call 51; go_loud (
     refine HL.out.mono ?_; rintro e w1 ⟨rfl, hb1, ho1, hs1⟩
     have hT1 := Blk.only HT.out ho1 htx
     have hC1 := Blk.only HC.out ho1 hcx
     have hX1 := HX.out.only ho1 hbx
     have k0 : w1.cell? ⟨t, 0, none⟩ = some (.pointer (some ⟨x, 0, none⟩)) := by rw [<- hx]; exact zab hT1 0 rfl
     have k1 : w1.cell? ⟨c, 0, none⟩ = some (.pointer (some ⟨t, 0, none⟩)) := zab hC1 0 rfl
     have HM := zaa (zex t x τ s 1 op false w1 hT1 hb1 hx)
     rw [H0.out] at HM
     have HB1 := zaa hb1
     have HO1 := zaa ho1
     have HX1 := zaa hX1
     have HT1 := zaa hT1
     have HC1 := zaa hC1
     clear hT1 hC1 hX1 hb1 ho1 hs1))
  | (go_at_call 54; go_loud (
     refine HM.out.mono ?_; rintro e w2 ⟨v, rfl, hb2, ha⟩
     obtain ⟨f, rfl, hf, hlf⟩ : ∃ f, v = zad f /\ zaj w2 f op n /\ w1.heap.size <= f := by
      rcases ha with h | h
      . exact absurd h.1 HN.out
      . exact h.2
     unfold zad
     have hx2 := HX1.out.below hb2 HX1.out.lt
     have g0 := zab hx2 0 rfl
     have g1 := zab hx2 1 rfl
     have z0 : w2.frozen? ⟨w.heap.size, 0, none⟩ = false := hx2.frozen 0
     have z1 : w2.frozen? ⟨w.heap.size, 1, none⟩ = false := hx2.frozen 1
     have HX2 := zaa hx2
     have HF := zaa hf
     have HLF := zaa hlf
     have HB2 := zaa hb2
     clear ha hf hlf hb2 hx2)))
 obtain ⟨W, hW⟩ : ∃ W, W = (w2.setCell ⟨w.heap.size, 0, none⟩ (.string ⟨#[]⟩)).setCell ⟨w.heap.size, 1, none⟩ (.string ⟨#[]⟩) := ⟨_, rfl⟩
 rw [<- hW]
 have hoW : Only (· = w.heap.size) w2 W := by rw [hW]; exact (Only.set1 _ _ _ _).set2 _ _
 have hXW : Blk W w.heap.size 68 #[.string ⟨#[]⟩, .string ⟨#[]⟩] := by rw [hW]; exact (HX2.out.set_ 0 _).set_ 1 _
 have hl1 := HX1.out.lt
 have hfl := HLF.out
 have hxl := HXL.out
 have hD2 := (HB1.out.below HB2.out HB1.out.lt).only hoW (show ¬ x = w.heap.size by omega)
 refine leaves_cons (f := 52) (args := #[.pointer (some ⟨x, 0, none⟩)]) (by simp) (by simp [go_sem]) ?_
 refine (zbe .returning hD2 rfl).mono ?_
 rintro e u' w4 ⟨rfl, rfl, hb4, ho4, hs4⟩
 have hX4 := hXW.only ho4 (show ¬ w.heap.size = x by omega)
 have r0 := zab hX4 0 rfl
 have r1 := zab hX4 1 rfl
 refine ⟨.tuple #[.agg #[.string ⟨#[]⟩, .string ⟨#[]⟩], .bool false, zad f], by simp [results, Tryz.results67, go_sem, r0, r1, zad], ?_, f, rfl, Blk.only (Blk.only HF.out hoW (by omega)) ho4 (by omega), by omega⟩
 have h1 : Only (· = x) w w1 := ((Only.refl _ _).alloc _).trans HO1.out
 exact (((h1.below HB2.out).trans' hoW (fun y hy e => by omega)).trans ho4).back HD0.out hb4
set_option maxHeartbeats 2000000 in
theorem zrq (h0 : mayC s.poi τ.done false τ.write = 0) (hf : from_ = true) (hn : on = false \/ (on = true /\ stamp ≠ τ.stamp)) :
   Calls Tryz.prog 67 #[.pointer (some ⟨c, 0, none⟩), .string op, .bool from_, .func (.func lf) #[] caps] w fun e w' => Below w.heap.size w w' /\ ∃ f, e = .returned (.tuple #[zao none, .bool false, zad f]) /\ zaj w' f op 11 /\ w.heap.size <= f := by
 obtain ⟨W0, hW0⟩ : ∃ W0, W0 = w.alloc (.cells #[.string ⟨#[]⟩, .string ⟨#[]⟩] 68) := ⟨_, rfl⟩
 have hb0 : Below w.heap.size w W0 := by rw [hW0]; exact (Below.refl _ _).alloc (Nat.le_refl _) _
 have hx0 : Blk W0 w.heap.size 68 #[.string ⟨#[]⟩, .string ⟨#[]⟩] := by rw [hW0]; exact Blk.new _ _ _
 have hD0 : DbAt W0 x s := Blk.below hD hb0 (Blk.lt hD)
 have hT0 : TxAt W0 t τ := Blk.below hT hb0 (Blk.lt hT)
 have hC0 : zbj W0 c t key on stamp := Blk.below hC hb0 (Blk.lt hC)
 have c0 : W0.cell? ⟨c, 0, none⟩ = some (.pointer (some ⟨t, 0, none⟩)) := zab hC0 0 rfl
 have t0 : W0.cell? ⟨t, 0, none⟩ = some (.pointer (some ⟨x, 0, none⟩)) := by rw [<- hx]; exact zab hT0 0 rfl
 have htx : t ≠ x := Blk.ne_ hT hD (by decide)
 have hcx : c ≠ x := Blk.ne_ hC hD (by decide)
 have hbx : w.heap.size ≠ x := by have := Blk.lt hD; omega
 have HL := zaa (zb3 hD0 rfl)
 have HXL := zaa (Blk.lt hD)
 have HTL := zaa (Blk.lt hT)
 have HCL := zaa (Blk.lt hC)
 have HT := zaa hT0
 have HC := zaa hC0
 have HD0 := zaa hD
 have HC0 := zaa hC
 have HD := zaa hD0
 have HX := zaa hx0
 have HB0 := zaa hb0
 have H0 := zaa h0
 subst hf
 clear hT hC hD h0 hb0 hx0 hD0 hT0 hC0
 subst hW0
 go_enter_defers Tryz.func67, Tryz.ntmps67
 rcases hn with rfl | ⟨rfl, hn⟩
 all_goals (
  go_wp2_with (first
   | (go_at_call 51; go_loud (
      refine HL.out.mono ?_; rintro e w1 ⟨rfl, hb1, ho1, hs1⟩
      have hT1 := Blk.only HT.out ho1 htx
      have hC1 := Blk.only HC.out ho1 hcx
      have hX1 := HX.out.only ho1 hbx
      have k0 : w1.cell? ⟨t, 0, none⟩ = some (.pointer (some ⟨x, 0, none⟩)) := by rw [<- hx]; exact zab hT1 0 rfl
      have k1 : w1.cell? ⟨c, 0, none⟩ = some (.pointer (some ⟨t, 0, none⟩)) := zab hC1 0 rfl
      have k2 : w1.cell? ⟨c, 2, none⟩ = some (.bool _) := zab hC1 2 rfl
      have k3 : w1.cell? ⟨c, 3, none⟩ = some (.int .i64 stamp) := zab hC1 3 rfl
      have k4 : w1.cell? ⟨t, 5, none⟩ = some (.int .i64 τ.stamp) := zab hT1 5 rfl
      have HM := zaa (zex t x τ s 1 op false w1 hT1 hb1 hx)
      rw [H0.out] at HM
      have HB1 := zaa hb1
      have HO1 := zaa ho1
      have HX1 := zaa hX1
      have HT1 := zaa hT1
      have HC1 := zaa hC1
      clear hT1 hC1 hX1 hb1 ho1 hs1))
   | (go_at_call 54; go_loud (
      refine HM.out.mono ?_; rintro e w2 ⟨v, rfl, hb2, ha⟩
      obtain ⟨rfl, rfl⟩ : v = .nilIface /\ w1 = w2 := by
       rcases ha with h | h
       . exact ⟨h.2.1, h.2.2⟩
       . exact absurd rfl h.1
      clear ha hb2)))
  go_region
  go_wp2_with (go_at_call 53; go_loud (
   refine (zb7 _ _ _).mono ?_; rintro e w3 ⟨rfl, hw3⟩
   have hb3 : Below w1.heap.size w1 w3 := by rw [hw3]; exact ((Below.refl _ _).drew).alloc (Nat.le_refl _) _
   have hF3 : zaj w3 w1.heap.size op 11 := by rw [hw3]; exact Blk.new _ _ _
   have hx3 := HX1.out.below hb3 HX1.out.lt
   have g0 := zab hx3 0 rfl
   have g1 := zab hx3 1 rfl
   have z0 : w3.frozen? ⟨w.heap.size, 0, none⟩ = false := hx3.frozen 0
   have z1 : w3.frozen? ⟨w.heap.size, 1, none⟩ = false := hx3.frozen 1
   unfold zad
   have HF := zaa hF3
   have HB3 := zaa hb3
   have HX3 := zaa hx3
   clear hw3 hb3 hF3 hx3))
  obtain ⟨W, hW⟩ : ∃ W, W = (w3.setCell ⟨w.heap.size, 0, none⟩ (.string ⟨#[]⟩)).setCell ⟨w.heap.size, 1, none⟩ (.string ⟨#[]⟩) := ⟨_, rfl⟩
  rw [<- hW]
  have hoW : Only (· = w.heap.size) w3 W := by rw [hW]; exact (Only.set1 _ _ _ _).set2 _ _
  have hXW : Blk W w.heap.size 68 #[.string ⟨#[]⟩, .string ⟨#[]⟩] := by rw [hW]; exact (HX3.out.set_ 0 _).set_ 1 _
  have hl1 := HX1.out.lt
  have hxl := HXL.out
  have hx1 := HB1.out.lt
  have hD2 := (HB1.out.below HB3.out HB1.out.lt).only hoW (show ¬ x = w.heap.size by omega)
  refine leaves_cons (f := 52) (args := #[.pointer (some ⟨x, 0, none⟩)]) (by simp) (by simp [go_sem]) ?_
  refine (zbe .returning hD2 rfl).mono ?_
  rintro e u' w4 ⟨rfl, rfl, hb4, ho4, hs4⟩
  have hX4 := hXW.only ho4 (show ¬ w.heap.size = x by omega)
  have r0 := zab hX4 0 rfl
  have r1 := zab hX4 1 rfl
  refine ⟨.tuple #[.agg #[.string ⟨#[]⟩, .string ⟨#[]⟩], .bool false, zad w1.heap.size], by simp [results, Tryz.results67, go_sem, r0, r1, zad], ?_, w1.heap.size, rfl, Blk.only (Blk.only HF.out hoW (by omega)) ho4 (by omega), by omega⟩
  have h1 : Only (· = x) w w1 := ((Only.refl _ _).alloc _).trans HO1.out
  exact (((h1.below HB3.out).trans' hoW (fun y hy e => by omega)).trans ho4).back HD0.out hb4)
end
end Go.Proofs.YtemondlgcmpbbaaGreatDoor
