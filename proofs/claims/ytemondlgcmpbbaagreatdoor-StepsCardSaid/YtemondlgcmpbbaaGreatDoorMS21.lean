/- Cu Cv: merged. -/
import Derived.Test.YtemondlgcmpbbaaGreatDoorMS09
import Derived.Test.YtemondlgcmpbbaaGreatDoorMS18
import Derived.Test.YtemondlgcmpbbaaGreatDoorMS19
import Derived.Test.YtemondlgcmpbbaaGreatDoorMS20
import Derived.OwnWalk
import Derived.RegionTactic
import Derived.BigRegion
import Derived.Deep.RegionHeld3
/- Walks: cursors: Cursor, move. -/
namespace Go.Proofs.YtemondlgcmpbbaaGreatDoor
open Go.RowKit

def CurAt (w : World) (c t : Nat) (key : Str) (on : Bool) (stamp : Int) : Prop := Blk w c 118 #[.pointer (some ⟨t, 0, none⟩), .string key, .bool on, .int .i64 stamp]
def opCursor : ByteArray := ⟨#[99, 117, 114, 115, 111, 114]⟩

set_option maxRecDepth 100000 in
set_option maxHeartbeats 1000000 in
theorem cursor_any (t x : Nat) (τ : TxS) (s : DbS) (w : World) (hT : TxAt w t τ) (hD : DbAt w x s) (hx : τ.db = x) (q : Option Addr) (hroot : τ.root = .pointer q) :
    Calls Tryz.prog 42 #[.pointer (some ⟨t, 0, none⟩)] w fun e w' => Below w.heap.size w w' ∧
      ((mayC s.poi τ.done false τ.write = 0 ∧ ∃ c, e = .returned (.tuple #[.pointer (some ⟨c, 0, none⟩), .nilIface]) ∧ CurAt w' c t ⟨#[]⟩ false 0 ∧ w.heap.size ≤ c) ∨
       (mayC s.poi τ.done false τ.write ≠ 0 ∧ ∃ f, e = .returned (.tuple #[.pointer none, faultV f]) ∧ FaultAt w' f opCursor (mayC s.poi τ.done false τ.write) ∧ w.heap.size ≤ f)) := by
  have HS := hide (see_any t x τ s opCursor w hT hD hx q hroot)
  unfold opCursor at HS ⊢
  rw [hroot] at HS
  have HD := hide hD
  clear hT hD
  go_enter Tryz.func42, Tryz.ntmps42
  go_wp2_with (go_at_call 66; go_loud (
     refine HS.out.mono ?_; rintro e w1 ⟨v, rfl, hv, hd1, ht1, ho1⟩
     have hb1 := ho1.back HD.out hd1
     have HB1 := hide hb1
     clear hb1 hd1 ht1 ho1
     rcases hv with ⟨h0, rfl⟩ | ⟨h0, f, rfl, hf, hlf⟩
     all_goals (have H0 := hide h0; clear h0)
     all_goals (try unfold faultV)
     all_goals (try (have HF := hide hf; have HLF := hide hlf; clear hf hlf))))
  · go_ret2
    have hn := Blk.new2 w1 (.cells #[.pointer q, .int .i64 τ.keys] 88) 118 #[.pointer (some ⟨t, 0, none⟩), .string ⟨#[]⟩, .bool false, .int .i64 0]
    exact ⟨(HB1.out.alloc HB1.out.size _).alloc (by have := HB1.out.size; simp; omega) _, .inl ⟨H0.out, _, rfl, hn, by have := HB1.out.size; omega⟩⟩
  · go_ret2
    exact ⟨HB1.out.alloc HB1.out.size _, .inr ⟨H0.out, f, rfl, Blk.alloc HF.out _, HLF.out⟩⟩

def MovePost (c t _x : Nat) (τ : TxS) (s : DbS) (op : Str) (from_ on : Bool) (stamp : Int) (res : Option (Str × Str)) (w : World) : Ending → World → Prop := fun e w' =>
  (mayC s.poi τ.done false τ.write ≠ 0 ∧ Below w.heap.size w w' ∧ ∃ f, e = .returned (.tuple #[pairV none, .bool false, faultV f]) ∧ FaultAt w' f op (mayC s.poi τ.done false τ.write) ∧ w.heap.size ≤ f) ∨
  (mayC s.poi τ.done false τ.write = 0 ∧ (from_ = true ∧ (on = false ∨ stamp ≠ τ.stamp)) ∧ Below w.heap.size w w' ∧ ∃ f, e = .returned (.tuple #[pairV none, .bool false, faultV f]) ∧ FaultAt w' f op 11 ∧ w.heap.size ≤ f) ∨
  (mayC s.poi τ.done false τ.write = 0 ∧ ¬ (from_ = true ∧ (on = false ∨ stamp ≠ τ.stamp)) ∧ e = .returned (.tuple #[pairV res, .bool res.isSome, .nilIface]) ∧ CurAt w' c t (rK res) res.isSome τ.stamp ∧ Only (· = c) w w')

section
variable (c t x : Nat) (τ : TxS) (s : DbS) (op key : Str) (from_ on : Bool) (stamp : Int) (lf : FuncId) (caps : Array Value) (w : World) (hC : CurAt w c t key on stamp) (hT : TxAt w t τ) (hD : DbAt w x s) (hx : τ.db = x)
include hC hT hD hx

set_option maxRecDepth 100000 in
set_option maxHeartbeats 2000000 in
theorem move_fault (n : Nat) (h0 : mayC s.poi τ.done false τ.write = n) (hn : n ≠ 0) :
    Calls Tryz.prog 67 #[.pointer (some ⟨c, 0, none⟩), .string op, .bool from_, .func (.func lf) #[] caps] w fun e w' => Below w.heap.size w w' ∧ ∃ f, e = .returned (.tuple #[pairV none, .bool false, faultV f]) ∧ FaultAt w' f op n ∧ w.heap.size ≤ f := by
  obtain ⟨W0, hW0⟩ : ∃ W0, W0 = w.alloc (.cells #[.string ⟨#[]⟩, .string ⟨#[]⟩] 68) := ⟨_, rfl⟩
  have hb0 : Below w.heap.size w W0 := by rw [hW0]; exact (Below.refl _ _).alloc (Nat.le_refl _) _
  have hx0 : Blk W0 w.heap.size 68 #[.string ⟨#[]⟩, .string ⟨#[]⟩] := by rw [hW0]; exact Blk.new _ _ _
  have hD0 : DbAt W0 x s := Blk.below hD hb0 (Blk.lt hD)
  have hT0 : TxAt W0 t τ := Blk.below hT hb0 (Blk.lt hT)
  have hC0 : CurAt W0 c t key on stamp := Blk.below hC hb0 (Blk.lt hC)
  have c0 : W0.cell? ⟨c, 0, none⟩ = some (.pointer (some ⟨t, 0, none⟩)) := cellOf hC0 0 rfl
  have t0 : W0.cell? ⟨t, 0, none⟩ = some (.pointer (some ⟨x, 0, none⟩)) := by rw [← hx]; exact cellOf hT0 0 rfl
  have htx : t ≠ x := Blk.ne_ hT hD (by decide)
  have hcx : c ≠ x := Blk.ne_ hC hD (by decide)
  have hbx : w.heap.size ≠ x := by have := Blk.lt hD; omega
  have HL := hide (lock_at hD0 rfl)
  have HXL := hide (Blk.lt hD)
  have HTL := hide (Blk.lt hT)
  have HCL := hide (Blk.lt hC)
  have HT := hide hT0
  have HC := hide hC0
  have HD0 := hide hD
  have HC0 := hide hC
  have HD := hide hD0
  have HX := hide hx0
  have HB0 := hide hb0
  have H0 := hide h0
  have HN := hide hn
  clear hT hC hD h0 hn hb0 hx0 hD0 hT0 hC0
  subst hW0
  go_enter_defers Tryz.func67, Tryz.ntmps67
  go_wp2_with (first
    | (go_at_call 51; go_loud (
       refine HL.out.mono ?_; rintro e w1 ⟨rfl, hb1, ho1, hs1⟩
       have hT1 := Blk.only HT.out ho1 htx
       have hC1 := Blk.only HC.out ho1 hcx
       have hX1 := HX.out.only ho1 hbx
       have k0 : w1.cell? ⟨t, 0, none⟩ = some (.pointer (some ⟨x, 0, none⟩)) := by rw [← hx]; exact cellOf hT1 0 rfl
       have k1 : w1.cell? ⟨c, 0, none⟩ = some (.pointer (some ⟨t, 0, none⟩)) := cellOf hC1 0 rfl
       have HM := hide (may0_any t x τ s 1 op false w1 hT1 hb1 hx)
       rw [H0.out] at HM
       have HB1 := hide hb1
       have HO1 := hide ho1
       have HX1 := hide hX1
       have HT1 := hide hT1
       have HC1 := hide hC1
       clear hT1 hC1 hX1 hb1 ho1 hs1))
    | (go_at_call 54; go_loud (
       refine HM.out.mono ?_; rintro e w2 ⟨v, rfl, hb2, ha⟩
       obtain ⟨f, rfl, hf, hlf⟩ : ∃ f, v = faultV f ∧ FaultAt w2 f op n ∧ w1.heap.size ≤ f := by
         rcases ha with h | h
         · exact absurd h.1 HN.out
         · exact h.2
       unfold faultV
       have hx2 := HX1.out.below hb2 HX1.out.lt
       have g0 := cellOf hx2 0 rfl
       have g1 := cellOf hx2 1 rfl
       have z0 : w2.frozen? ⟨w.heap.size, 0, none⟩ = false := hx2.frozen 0
       have z1 : w2.frozen? ⟨w.heap.size, 1, none⟩ = false := hx2.frozen 1
       have HX2 := hide hx2
       have HF := hide hf
       have HLF := hide hlf
       have HB2 := hide hb2
       clear ha hf hlf hb2 hx2)))
  obtain ⟨W, hW⟩ : ∃ W, W = (w2.setCell ⟨w.heap.size, 0, none⟩ (.string ⟨#[]⟩)).setCell ⟨w.heap.size, 1, none⟩ (.string ⟨#[]⟩) := ⟨_, rfl⟩
  rw [← hW]
  have hoW : Only (· = w.heap.size) w2 W := by rw [hW]; exact (Only.set1 _ _ _ _).set2 _ _
  have hXW : Blk W w.heap.size 68 #[.string ⟨#[]⟩, .string ⟨#[]⟩] := by rw [hW]; exact (HX2.out.set_ 0 _).set_ 1 _
  have hl1 := HX1.out.lt
  have hfl := HLF.out
  have hxl := HXL.out
  have hD2 := (HB1.out.below HB2.out HB1.out.lt).only hoW (show ¬ x = w.heap.size by omega)
  refine leaves_cons (f := 52) (args := #[.pointer (some ⟨x, 0, none⟩)]) (by simp) (by simp [go_sem]) ?_
  refine (unlock_at .returning hD2 rfl).mono ?_
  rintro e u' w4 ⟨rfl, rfl, hb4, ho4, hs4⟩
  have hX4 := hXW.only ho4 (show ¬ w.heap.size = x by omega)
  have r0 := cellOf hX4 0 rfl
  have r1 := cellOf hX4 1 rfl
  refine ⟨.tuple #[.agg #[.string ⟨#[]⟩, .string ⟨#[]⟩], .bool false, faultV f], by simp [results, Tryz.results67, go_sem, r0, r1, faultV], ?_, f, rfl, Blk.only (Blk.only HF.out hoW (by omega)) ho4 (by omega), by omega⟩
  have h1 : Only (· = x) w w1 := ((Only.refl _ _).alloc _).trans HO1.out
  exact (((h1.below HB2.out).trans' hoW (fun y hy e => by omega)).trans ho4).back HD0.out hb4

set_option maxRecDepth 100000 in
set_option maxHeartbeats 2000000 in
theorem move_place (h0 : mayC s.poi τ.done false τ.write = 0) (hf : from_ = true) (hn : on = false ∨ (on = true ∧ stamp ≠ τ.stamp)) :
    Calls Tryz.prog 67 #[.pointer (some ⟨c, 0, none⟩), .string op, .bool from_, .func (.func lf) #[] caps] w fun e w' => Below w.heap.size w w' ∧ ∃ f, e = .returned (.tuple #[pairV none, .bool false, faultV f]) ∧ FaultAt w' f op 11 ∧ w.heap.size ≤ f := by
  obtain ⟨W0, hW0⟩ : ∃ W0, W0 = w.alloc (.cells #[.string ⟨#[]⟩, .string ⟨#[]⟩] 68) := ⟨_, rfl⟩
  have hb0 : Below w.heap.size w W0 := by rw [hW0]; exact (Below.refl _ _).alloc (Nat.le_refl _) _
  have hx0 : Blk W0 w.heap.size 68 #[.string ⟨#[]⟩, .string ⟨#[]⟩] := by rw [hW0]; exact Blk.new _ _ _
  have hD0 : DbAt W0 x s := Blk.below hD hb0 (Blk.lt hD)
  have hT0 : TxAt W0 t τ := Blk.below hT hb0 (Blk.lt hT)
  have hC0 : CurAt W0 c t key on stamp := Blk.below hC hb0 (Blk.lt hC)
  have c0 : W0.cell? ⟨c, 0, none⟩ = some (.pointer (some ⟨t, 0, none⟩)) := cellOf hC0 0 rfl
  have t0 : W0.cell? ⟨t, 0, none⟩ = some (.pointer (some ⟨x, 0, none⟩)) := by rw [← hx]; exact cellOf hT0 0 rfl
  have htx : t ≠ x := Blk.ne_ hT hD (by decide)
  have hcx : c ≠ x := Blk.ne_ hC hD (by decide)
  have hbx : w.heap.size ≠ x := by have := Blk.lt hD; omega
  have HL := hide (lock_at hD0 rfl)
  have HXL := hide (Blk.lt hD)
  have HTL := hide (Blk.lt hT)
  have HCL := hide (Blk.lt hC)
  have HT := hide hT0
  have HC := hide hC0
  have HD0 := hide hD
  have HC0 := hide hC
  have HD := hide hD0
  have HX := hide hx0
  have HB0 := hide hb0
  have H0 := hide h0
  subst hf
  clear hT hC hD h0 hb0 hx0 hD0 hT0 hC0
  subst hW0
  go_enter_defers Tryz.func67, Tryz.ntmps67
  rcases hn with rfl | ⟨rfl, hn⟩
  all_goals (
   go_wp2_with (first
    | (go_at_call 51; go_loud (
       refine HL.out.mono ?_; rintro e w1 ⟨rfl, hb1, ho1, hs1⟩
       have hT1 := Blk.only HT.out ho1 htx
       have hC1 := Blk.only HC.out ho1 hcx
       have hX1 := HX.out.only ho1 hbx
       have k0 : w1.cell? ⟨t, 0, none⟩ = some (.pointer (some ⟨x, 0, none⟩)) := by rw [← hx]; exact cellOf hT1 0 rfl
       have k1 : w1.cell? ⟨c, 0, none⟩ = some (.pointer (some ⟨t, 0, none⟩)) := cellOf hC1 0 rfl
       have k2 : w1.cell? ⟨c, 2, none⟩ = some (.bool _) := cellOf hC1 2 rfl
       have k3 : w1.cell? ⟨c, 3, none⟩ = some (.int .i64 stamp) := cellOf hC1 3 rfl
       have k4 : w1.cell? ⟨t, 5, none⟩ = some (.int .i64 τ.stamp) := cellOf hT1 5 rfl
       have HM := hide (may0_any t x τ s 1 op false w1 hT1 hb1 hx)
       rw [H0.out] at HM
       have HB1 := hide hb1
       have HO1 := hide ho1
       have HX1 := hide hX1
       have HT1 := hide hT1
       have HC1 := hide hC1
       clear hT1 hC1 hX1 hb1 ho1 hs1))
    | (go_at_call 54; go_loud (
       refine HM.out.mono ?_; rintro e w2 ⟨v, rfl, hb2, ha⟩
       obtain ⟨rfl, rfl⟩ : v = .nilIface ∧ w1 = w2 := by
         rcases ha with h | h
         · exact ⟨h.2.1, h.2.2⟩
         · exact absurd rfl h.1
       clear ha hb2)))
   go_region
   go_wp2_with (go_at_call 53; go_loud (
     refine (fail_any _ _ _).mono ?_; rintro e w3 ⟨rfl, hw3⟩
     have hb3 : Below w1.heap.size w1 w3 := by rw [hw3]; exact ((Below.refl _ _).drew).alloc (Nat.le_refl _) _
     have hF3 : FaultAt w3 w1.heap.size op 11 := by rw [hw3]; exact Blk.new _ _ _
     have hx3 := HX1.out.below hb3 HX1.out.lt
     have g0 := cellOf hx3 0 rfl
     have g1 := cellOf hx3 1 rfl
     have z0 : w3.frozen? ⟨w.heap.size, 0, none⟩ = false := hx3.frozen 0
     have z1 : w3.frozen? ⟨w.heap.size, 1, none⟩ = false := hx3.frozen 1
     unfold faultV
     have HF := hide hF3
     have HB3 := hide hb3
     have HX3 := hide hx3
     clear hw3 hb3 hF3 hx3))
   obtain ⟨W, hW⟩ : ∃ W, W = (w3.setCell ⟨w.heap.size, 0, none⟩ (.string ⟨#[]⟩)).setCell ⟨w.heap.size, 1, none⟩ (.string ⟨#[]⟩) := ⟨_, rfl⟩
   rw [← hW]
   have hoW : Only (· = w.heap.size) w3 W := by rw [hW]; exact (Only.set1 _ _ _ _).set2 _ _
   have hXW : Blk W w.heap.size 68 #[.string ⟨#[]⟩, .string ⟨#[]⟩] := by rw [hW]; exact (HX3.out.set_ 0 _).set_ 1 _
   have hl1 := HX1.out.lt
   have hxl := HXL.out
   have hx1 := HB1.out.lt
   have hD2 := (HB1.out.below HB3.out HB1.out.lt).only hoW (show ¬ x = w.heap.size by omega)
   refine leaves_cons (f := 52) (args := #[.pointer (some ⟨x, 0, none⟩)]) (by simp) (by simp [go_sem]) ?_
   refine (unlock_at .returning hD2 rfl).mono ?_
   rintro e u' w4 ⟨rfl, rfl, hb4, ho4, hs4⟩
   have hX4 := hXW.only ho4 (show ¬ w.heap.size = x by omega)
   have r0 := cellOf hX4 0 rfl
   have r1 := cellOf hX4 1 rfl
   refine ⟨.tuple #[.agg #[.string ⟨#[]⟩, .string ⟨#[]⟩], .bool false, faultV w1.heap.size], by simp [results, Tryz.results67, go_sem, r0, r1, faultV], ?_, w1.heap.size, rfl, Blk.only (Blk.only HF.out hoW (by omega)) ho4 (by omega), by omega⟩
   have h1 : Only (· = x) w w1 := ((Only.refl _ _).alloc _).trans HO1.out
   exact (((h1.below HB3.out).trans' hoW (fun y hy e => by omega)).trans ho4).back HD0.out hb4)
end
end Go.Proofs.YtemondlgcmpbbaaGreatDoor

/- Walks: a cursor's move that looks. -/
namespace Go.Proofs.YtemondlgcmpbbaaGreatDoor
open Go.RowKit

section
variable (c t x : Nat) (τ : TxS) (s : DbS) (op key : Str) (from_ on : Bool) (stamp : Int) (lf : FuncId) (caps : Array Value) (w : World) (hC : CurAt w c t key on stamp) (hT : TxAt w t τ) (hD : DbAt w x s) (hx : τ.db = x)
include hC hT hD hx

set_option maxRecDepth 100000 in
set_option maxHeartbeats 2000000 in
theorem move_look (h0 : mayC s.poi τ.done false τ.write = 0) (hn : from_ = false ∨ (from_ = true ∧ on = true ∧ stamp = τ.stamp)) (res : Option (Str × Str)) (q : Option Addr) (hroot : τ.root = .pointer q) (heg : ∀ args w, (callFunc lf args).run Tryz.prog w = .ok (.enter lf args) w)
    (hlook : ∀ W, Only (· = x) w W → Calls Tryz.prog lf (#[.agg #[.pointer q, .int .i64 τ.keys]] ++ caps) W fun e w' => e = .returned (.tuple #[pairV res, .bool res.isSome]) ∧ Below W.heap.size W w') :
    Calls Tryz.prog 67 #[.pointer (some ⟨c, 0, none⟩), .string op, .bool from_, .func (.func lf) #[] caps] w fun e w' => e = .returned (.tuple #[pairV res, .bool res.isSome, .nilIface]) ∧ CurAt w' c t (rK res) res.isSome τ.stamp ∧ Only (· = c) w w' := by
  obtain ⟨W0, hW0⟩ : ∃ W0, W0 = w.alloc (.cells #[.string ⟨#[]⟩, .string ⟨#[]⟩] 68) := ⟨_, rfl⟩
  have hb0 : Below w.heap.size w W0 := by rw [hW0]; exact (Below.refl _ _).alloc (Nat.le_refl _) _
  have hx0 : Blk W0 w.heap.size 68 #[.string ⟨#[]⟩, .string ⟨#[]⟩] := by rw [hW0]; exact Blk.new _ _ _
  have hD0 : DbAt W0 x s := Blk.below hD hb0 (Blk.lt hD)
  have hT0 : TxAt W0 t τ := Blk.below hT hb0 (Blk.lt hT)
  have hC0 : CurAt W0 c t key on stamp := Blk.below hC hb0 (Blk.lt hC)
  have c0 : W0.cell? ⟨c, 0, none⟩ = some (.pointer (some ⟨t, 0, none⟩)) := cellOf hC0 0 rfl
  have t0 : W0.cell? ⟨t, 0, none⟩ = some (.pointer (some ⟨x, 0, none⟩)) := by rw [← hx]; exact cellOf hT0 0 rfl
  have htx : t ≠ x := Blk.ne_ hT hD (by decide)
  have hcx : c ≠ x := Blk.ne_ hC hD (by decide)
  have hbx : w.heap.size ≠ x := by have := Blk.lt hD; omega
  have HL := hide (lock_at hD0 rfl)
  have HXL := hide (Blk.lt hD)
  have HTL := hide (Blk.lt hT)
  have HCL := hide (Blk.lt hC)
  have HT := hide hT0
  have HC := hide hC0
  have HD0 := hide hD
  have HC0 := hide hC
  have HD := hide hD0
  have HX := hide hx0
  have HB0 := hide hb0
  have H0 := hide h0
  have hlk : ∀ W, Only (· = x) (w.alloc (.cells #[.string ⟨#[]⟩, .string ⟨#[]⟩] 68)) W → Calls Tryz.prog lf (#[.agg #[.pointer q, .int .i64 τ.keys]] ++ caps) W fun e w' => e = .returned (.tuple #[pairV res, .bool res.isSome]) ∧ Below W.heap.size W w' := fun W ho => hlook W (((Only.refl _ _).alloc _).trans ho)
  have HLK := hide hlk
  clear hT hC hD h0 hb0 hx0 hD0 hT0 hC0 hlook hlk
  subst hW0
  go_enter_defers Tryz.func67, Tryz.ntmps67
  rcases hn with rfl | ⟨rfl, rfl, hn⟩
  all_goals (
   go_wp2_with (first
    | (go_at_call 51; go_loud (
       refine HL.out.mono ?_; rintro e w1 ⟨rfl, hb1, ho1, hs1⟩
       have hT1 := Blk.only HT.out ho1 htx
       have hC1 := Blk.only HC.out ho1 hcx
       have hX1 := HX.out.only ho1 hbx
       have k0 : w1.cell? ⟨t, 0, none⟩ = some (.pointer (some ⟨x, 0, none⟩)) := by rw [← hx]; exact cellOf hT1 0 rfl
       have k1 : w1.cell? ⟨c, 0, none⟩ = some (.pointer (some ⟨t, 0, none⟩)) := cellOf hC1 0 rfl
       have k2 : w1.cell? ⟨c, 2, none⟩ = some (.bool _) := cellOf hC1 2 rfl
       have k3 : w1.cell? ⟨c, 3, none⟩ = some (.int .i64 stamp) := cellOf hC1 3 rfl
       have k4 : w1.cell? ⟨t, 5, none⟩ = some (.int .i64 τ.stamp) := cellOf hT1 5 rfl
       have k5 : w1.cell? ⟨t, 1, none⟩ = some (.pointer q) := by rw [← hroot]; exact cellOf hT1 1 rfl
       have k6 : w1.cell? ⟨t, 2, none⟩ = some (.int .i64 τ.keys) := cellOf hT1 2 rfl
       have HM := hide (may0_any t x τ s 1 op false w1 hT1 hb1 hx)
       rw [H0.out] at HM
       have HLK1 := hide (HLK.out w1.drew ho1.drew)
       have HB1 := hide hb1
       have HO1 := hide ho1
       have HX1 := hide hX1
       have HT1 := hide hT1
       have HC1 := hide hC1
       clear hT1 hC1 hX1 hb1 ho1 hs1))
    | (go_at_call 54; go_loud (
       refine HM.out.mono ?_; rintro e w2 ⟨v, rfl, hb2, ha⟩
       obtain ⟨rfl, rfl⟩ : v = .nilIface ∧ w1 = w2 := by
         rcases ha with h | h
         · exact ⟨h.2.1, h.2.2⟩
         · exact absurd rfl h.1
       clear ha hb2)))
   go_region
   go_wp2_with ((
     (with_reducible refine HLK1.out.mono ?_); rintro e w5 ⟨rfl, hb5⟩
     have hb5' : Below w1.heap.size w1 w5 := ((Below.refl _ _).drew).trans hb5
     have hT5 := HT1.out.below hb5' HT1.out.lt
     have hC5 := HC1.out.below hb5' HC1.out.lt
     have hX5 := HX1.out.below hb5' HX1.out.lt
     have q0 := cellOf hC5 0 rfl
     have q1 := cellOf hC5 1 rfl
     have q2 := cellOf hC5 2 rfl
     have q3 := cellOf hC5 3 rfl
     have f1 : w5.frozen? ⟨c, 1, none⟩ = false := hC5.frozen 1
     have f2 : w5.frozen? ⟨c, 2, none⟩ = false := hC5.frozen 2
     have f3 : w5.frozen? ⟨c, 3, none⟩ = false := hC5.frozen 3
     have p0 : w5.cell? ⟨t, 0, none⟩ = some (.pointer (some ⟨x, 0, none⟩)) := by rw [← hx]; exact cellOf hT5 0 rfl
     have p5 : w5.cell? ⟨t, 5, none⟩ = some (.int .i64 τ.stamp) := cellOf hT5 5 rfl
     have g0 := cellOf hX5 0 rfl
     have g1 := cellOf hX5 1 rfl
     have z0 : w5.frozen? ⟨w.heap.size, 0, none⟩ = false := hX5.frozen 0
     have z1 : w5.frozen? ⟨w.heap.size, 1, none⟩ = false := hX5.frozen 1
     have HB5 := hide hb5'
     have HX5 := hide hX5
     have HC5 := hide hC5
     have HT5 := hide hT5
     have n1 : ¬ c = w5.heap.size := by have := hC5.lt; omega
     have n1' : ¬ w5.heap.size = c := fun e => n1 e.symm
     have n2 : ¬ t = w5.heap.size := by have := hT5.lt; omega
     have n2' : ¬ w5.heap.size = t := fun e => n2 e.symm
     have n3 : ¬ w.heap.size = w5.heap.size := by have := hX5.lt; omega
     have n3' : ¬ w5.heap.size = w.heap.size := fun e => n3 e.symm
     have n4 : ¬ c = w.heap.size := by have := HCL.out; omega
     have n4' : ¬ w.heap.size = c := fun e => n4 e.symm
     have n5 : ¬ t = w.heap.size := by have := HTL.out; omega
     have n6 : ¬ c = t := Blk.ne_ hC5 hT5 (by decide)
     have n6' : ¬ t = c := fun e => n6 e.symm
     unfold pairV
     clear hb5 hb5' hT5 hC5 hX5))
   obtain ⟨W6, hW6⟩ : ∃ W6, W6 = w5.alloc (.cells #[.string (rK res), .string (rV res)] 68) := ⟨_, rfl⟩
   have hb6 : Below w5.heap.size w5 W6 := by rw [hW6]; exact (Below.refl _ _).alloc (Nat.le_refl _) _
   have hp6 : Blk W6 w5.heap.size 68 #[.string (rK res), .string (rV res)] := by rw [hW6]; exact Blk.new _ _ _
   rw [← hW6]
   have hC6 := HC5.out.below hb6 HC5.out.lt
   have hT6 := HT5.out.below hb6 HT5.out.lt
   have hX6 := HX5.out.below hb6 HX5.out.lt
   clear q0 q1 q2 q3 f1 f2 f3 p0 p5 g0 g1 z0 z1 hW6
   have q0 := cellOf hC6 0 rfl
   have q1 := cellOf hC6 1 rfl
   have q2 := cellOf hC6 2 rfl
   have q3 := cellOf hC6 3 rfl
   have f1 : W6.frozen? ⟨c, 1, none⟩ = false := hC6.frozen 1
   have f2 : W6.frozen? ⟨c, 2, none⟩ = false := hC6.frozen 2
   have f3 : W6.frozen? ⟨c, 3, none⟩ = false := hC6.frozen 3
   have p5 : W6.cell? ⟨t, 5, none⟩ = some (.int .i64 τ.stamp) := cellOf hT6 5 rfl
   have g0 := cellOf hX6 0 rfl
   have g1 := cellOf hX6 1 rfl
   have z0 : W6.frozen? ⟨w.heap.size, 0, none⟩ = false := hX6.frozen 0
   have z1 : W6.frozen? ⟨w.heap.size, 1, none⟩ = false := hX6.frozen 1
   have r0 := cellOf hp6 0 rfl
   have r1 := cellOf hp6 1 rfl
   have HB6 := hide hb6
   have HC6 := hide hC6
   have HX6 := hide hX6
   have HP6 := hide hp6
   clear hb6 hC6 hT6 hX6 hp6
   have hpx : W6.cell? ⟨c, 0, none⟩ = some (.pointer (some ⟨t, 0, none⟩)) := q0
   have hpk : W6.cell? ⟨w5.heap.size, 0, none⟩ = some (.string (rK res)) := r0
   have hps : ∀ W, Only (fun y => y = c) W6 W → W.cell? ⟨c, 0, none⟩ = some (.pointer (some ⟨t, 0, none⟩)) → W.cell? ⟨w5.heap.size, 0, none⟩ = some (.string (rK res)) ∧ W.cell? ⟨c, 0, none⟩ = some (.pointer (some ⟨t, 0, none⟩)) ∧ W.cell? ⟨t, 5, none⟩ = some (.int .i64 τ.stamp) := fun W ho h0 =>
     ⟨(ho.cell (p := ⟨w5.heap.size, 0, none⟩) HP6.out.lt (fun e => n1' e)).trans hpk, h0, (ho.cell (p := ⟨t, 5, none⟩) (by have := HT5.out.lt; exact Nat.lt_of_lt_of_le this HB6.out.size) (fun e => n6' e)).trans p5⟩
   have HS0 := hide (show W6.drew.cell? ⟨w5.heap.size, 0, none⟩ = some (.string (rK res)) ∧ W6.drew.cell? ⟨c, 0, none⟩ = some (.pointer (some ⟨t, 0, none⟩)) ∧ W6.drew.cell? ⟨t, 5, none⟩ = some (.int .i64 τ.stamp) from ⟨hpk, hpx, p5⟩)
   have HS1 := hide (hps _ ((Only.set1 W6 c 1 (.string (rK res))).drew) (cellOf ((HC6.out.set_ 1 (.string (rK res))).drew) 0 rfl))
   have HS2 := hide (hps _ (((Only.set1 W6 c 1 (.string (rK res))).set2 2 (.bool res.isSome)).drew) (cellOf (((HC6.out.set_ 1 (.string (rK res))).set_ 2 (.bool res.isSome)).drew) 0 rfl))
   have HS3 := hide (hps _ ((((Only.set1 W6 c 1 (.string (rK res))).set2 2 (.bool res.isSome)).set2 3 (.int .i64 τ.stamp)).drew) (cellOf ((((HC6.out.set_ 1 (.string (rK res))).set_ 2 (.bool res.isSome)).set_ 3 (.int .i64 τ.stamp)).drew) 0 rfl))
   clear hps
   go_region_held3 (fun w' => w'.cell? ⟨w5.heap.size, 0, none⟩ = some (.string (rK res)) ∧ w'.cell? ⟨c, 0, none⟩ = some (.pointer (some ⟨t, 0, none⟩)) ∧ w'.cell? ⟨t, 5, none⟩ = some (.int .i64 τ.stamp)) (first | with_reducible exact HS0.out | with_reducible exact HS1.out | with_reducible exact HS2.out | with_reducible exact HS3.out | (trace_state; fail)) (fail)
   go_wp2
   obtain ⟨W7, hW7⟩ : ∃ W7, W7 = (((((W6.setCell ⟨c, 1, none⟩ (.string (rK res))).setCell ⟨c, 2, none⟩ (.bool res.isSome)).setCell ⟨c, 3, none⟩ (.int .i64 τ.stamp)).setCell ⟨w.heap.size, 0, none⟩ (.string (rK res))).setCell ⟨w.heap.size, 1, none⟩ (.string (rV res))).drew := ⟨_, rfl⟩
   rw [← hW7]
   have hoW : Only (fun y => y = c ∨ y = w.heap.size) W6 W7 := by
     rw [hW7]
     exact ((((((Only.refl (fun y => y = c ∨ y = w.heap.size) W6).setCell (p := ⟨c, 1, none⟩) (.inl (.inl rfl)) _).setCell (p := ⟨c, 2, none⟩) (.inl (.inl rfl)) _).setCell (p := ⟨c, 3, none⟩) (.inl (.inl rfl)) _).setCell (p := ⟨w.heap.size, 0, none⟩) (.inl (.inr rfl)) _).setCell (p := ⟨w.heap.size, 1, none⟩) (.inl (.inr rfl)) _).drew
   have hC7 : CurAt W7 c t (rK res) res.isSome τ.stamp := by
     rw [hW7]
     exact (((((HC6.out.set_ 1 _).set_ 2 _).set_ 3 _).far (p := ⟨w.heap.size, 0, none⟩) n4 _).far (p := ⟨w.heap.size, 1, none⟩) n4 _).drew
   have hX7 : Blk W7 w.heap.size 68 #[.string (rK res), .string (rV res)] := by
     rw [hW7]
     exact (((((HX6.out.far (p := ⟨c, 1, none⟩) n4' _).far (p := ⟨c, 2, none⟩) n4' _).far (p := ⟨c, 3, none⟩) n4' _).set_ 0 _).set_ 1 _).drew
   have hxl := HXL.out
   have hx1 := HB1.out.lt
   have hs5 := HB5.out.size
   have hD5 := HB1.out.below HB5.out HB1.out.lt
   have hD6 := hD5.below HB6.out hD5.lt
   have hD7 := hD6.only hoW (fun e => e.elim (fun e => hcx e.symm) (by omega))
   refine leaves_cons (f := 52) (args := #[.pointer (some ⟨x, 0, none⟩)]) (by simp) (by simp [go_sem]) ?_
   refine (unlock_at .returning hD7 rfl).mono ?_
   rintro e u' w4 ⟨rfl, rfl, hb4, ho4, hs4⟩
   have hX4 := hX7.only ho4 (show ¬ w.heap.size = x by omega)
   have e0 := cellOf hX4 0 rfl
   have e1 := cellOf hX4 1 rfl
   refine ⟨.tuple #[.agg #[.string (rK res), .string (rV res)], .bool res.isSome, .nilIface], by simp [results, Tryz.results67, go_sem, e0, e1], rfl, Blk.only hC7 ho4 hcx, ?_⟩
   have h1 : Only (· = x) w w1 := ((Only.refl _ _).alloc _).trans HO1.out
   have h2 : Only (fun y => y = x ∨ y = c) w W6 := ((h1.below HB5.out).below HB6.out).mono fun _ _ h => .inl h
   have h3 : Only (fun y => y = x ∨ y = c) w w4 := (h2.trans' hoW (fun y hy e => e.elim .inr (fun e => by omega))).trans (ho4.mono fun _ _ h => .inl h)
   exact ⟨h3.os, h3.tape, h3.output, h3.size, fun y hy hn' => by
     by_cases e : y = x
     · subst e
       exact hb4.trans (show Blk w y _ _ from HD0.out).symm
     · exact h3.block y hy (fun h => h.elim e hn')⟩)
end
end Go.Proofs.YtemondlgcmpbbaaGreatDoor
