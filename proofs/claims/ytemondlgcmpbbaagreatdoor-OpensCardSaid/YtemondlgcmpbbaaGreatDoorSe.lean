/- Walks: (*Txn).see. -/
import Derived.Test.YtemondlgcmpbbaaGreatDoorMa
import Derived.Deep.RegionHeld3
namespace Go.Proofs.YtemondlgcmpbbaaGreatDoor
open Go.RowKit

theorem Ans.old {_w0 w w' : World} {v : Value} {op : ByteArray} {c : Nat} (h : Ans w w' v op c) : Below w.heap.size w w' := h.1
/-- What an answer is, without the world ahead of it. -/
def AnsV (w' : World) (B : Nat) (v : Value) (op : ByteArray) (c : Nat) : Prop := (c = 0 ∧ v = .nilIface) ∨ (c ≠ 0 ∧ ∃ f, v = faultV f ∧ FaultAt w' f op c ∧ B ≤ f)
theorem Ans.v {w w' : World} {v : Value} {op : ByteArray} {c : Nat} (h : Ans w w' v op c) : AnsV w' w.heap.size v op c := by
  rcases h.2 with ⟨h1, h2, _⟩ | ⟨h1, f, h2, h3, h4⟩
  · exact .inl ⟨h1, h2⟩
  · exact .inr ⟨h1, f, h2, h3, h4⟩
theorem AnsV.only {w w' : World} {B : Nat} {v : Value} {op : ByteArray} {c : Nat} {fp : Nat → Prop} (h : AnsV w B v op c) (ho : Only fp w w') (hf : ∀ f, B ≤ f → f < w.heap.size → ∀ cs, Blk w f 130 cs → ¬ fp f) : AnsV w' B v op c := by
  rcases h with h | ⟨h1, f, h2, h3, h4⟩
  · exact .inl h
  · exact .inr ⟨h1, f, h2, Blk.only h3 ho (hf f h4 h3.lt _ h3), h4⟩
theorem AnsV.mono {w : World} {B B' : Nat} {v : Value} {op : ByteArray} {c : Nat} (h : AnsV w B v op c) (hB : B' ≤ B) : AnsV w B' v op c := by
  rcases h with h | ⟨h1, f, h2, h3, h4⟩
  · exact .inl h
  · exact .inr ⟨h1, f, h2, h3, by omega⟩

set_option maxRecDepth 100000 in
set_option maxHeartbeats 1000000 in
theorem see_any (t x : Nat) (τ : TxS) (s : DbS) (op : ByteArray) (w : World) (hT : TxAt w t τ) (hD : DbAt w x s) (hx : τ.db = x) (r : Option Addr) (hroot : τ.root = .pointer r) :
    Calls Tryz.prog 66 #[.pointer (some ⟨t, 0, none⟩), .string op] w fun e w' => ∃ v, e = .returned (.tuple #[.agg #[τ.root, .int .i64 τ.keys], v]) ∧ AnsV w' w.heap.size v op (mayC s.poi τ.done false τ.write) ∧ DbAt w' x s ∧ TxAt w' t τ ∧ Only (· = x) w w' := by
  have t0 : w.cell? ⟨t, 0, none⟩ = some (.pointer (some ⟨x, 0, none⟩)) := by rw [← hx]; exact cellOf hT 0 rfl
  have t0' := fun o => cellA o t0
  have htx : t ≠ x := Blk.ne_ hT hD (by decide)
  have hbA := (Below.refl w.heap.size w).alloc (Nat.le_refl _) (.cells #[.pointer none, .int .i64 0] 88)
  have HL := hide (lock_at (hD.alloc (.cells #[.pointer none, .int .i64 0] 88)) rfl)
  have HT := hide hT
  have HD := hide hD
  have HXL := hide hD.lt
  have HTL := hide hT.lt
  clear hT hD
  go_enter_defers Tryz.func66, Tryz.ntmps66
  go_wp2_with (go_at_call 51; refine HL.out.mono ?_; rintro e w1 ⟨rfl, hb1, ho1, hs1⟩
               have hT1 := (HT.out.alloc (.cells #[.pointer none, .int .i64 0] 88)).only ho1 htx
               have k0 : w1.cell? ⟨t, 0, none⟩ = some (.pointer (some ⟨x, 0, none⟩)) := by rw [← hx]; exact cellOf hT1 0 rfl
               have k1 : w1.cell? ⟨t, 1, none⟩ = some τ.root := cellOf hT1 1 rfl
               have k2 : w1.cell? ⟨t, 2, none⟩ = some (.int .i64 τ.keys) := cellOf hT1 2 rfl
               have hTr := (Blk.new w 88 #[.pointer none, .int .i64 0]).only ho1 (show ¬ w.heap.size = x by have := HXL.out; omega)
               rw [hroot] at k1
               have HM := hide (may0_any t x τ s 1 op false w1.drew hT1.drew hb1.drew hx)
               have HT1 := hide hT1
               have HB1 := hide hb1
               have HO1 := hide ho1
               have HTR := hide hTr
               clear hT1 hb1 ho1 hTr)
  have htl1 : t < w1.heap.size := HT1.out.lt
  have htl0 : t < w.heap.size := HTL.out
  have hne0 : (⟨w.heap.size, 0, none⟩ : Addr).block ≠ t := by show w.heap.size ≠ t; omega
  go_region_held3 (fun w' => w'.cell? ⟨t, 1, none⟩ = some (.pointer r) ∧ w'.cell? ⟨t, 2, none⟩ = some (.int .i64 τ.keys)) (first | go_keep | (exact ⟨(hk1.cell (p := ⟨t, 1, none⟩) htl1).trans k1, (hk1.cell (p := ⟨t, 2, none⟩) htl1).trans k2⟩) | (refine ⟨?_, ?_⟩ <;> (rw [World.cell?_setCell_other _ _ _ _ (by intro e; injection e; omega), World.cell?_setCell_other _ _ _ _ (by intro e; injection e; omega)]; assumption)))
    (first
      | (go_at_call 54
         ((with_reducible refine HM.out.mono ?_)
          rintro e w2 ⟨v, rfl, ha⟩
          have hk1 : Below w1.heap.size w1.drew w2 := ha.1
          have e1 : w2.cell? ⟨t, 1, none⟩ = some (.pointer r) := (hk1.cell (p := ⟨t, 1, none⟩) htl1).trans k1
          have e2 : w2.cell? ⟨t, 2, none⟩ = some (.int .i64 τ.keys) := (hk1.cell (p := ⟨t, 2, none⟩) htl1).trans k2
          have hTr2 := HTR.out.drew.below hk1 HTR.out.lt
          have g0 := cellOf hTr2 0 rfl
          have g1 := cellOf hTr2 1 rfl
          have z0 : w2.frozen? ⟨w.heap.size, 0, none⟩ = false := hTr2.frozen 0
          have z1 : w2.frozen? ⟨w.heap.size, 1, none⟩ = false := hTr2.frozen 1
          have HA := hide ha
          have HTR2 := hide hTr2
          clear ha hTr2)))
  go_wp2
  have hxl := HXL.out
  have hx1 : x < w1.heap.size := HB1.out.lt
  have hzz : w.heap.size < w1.heap.size := HTR.out.lt
  have hW : ∃ W, W = (w2.setCell ⟨w.heap.size, 0, none⟩ (.pointer r)).setCell ⟨w.heap.size, 1, none⟩ (.int .i64 τ.keys) := ⟨_, rfl⟩
  obtain ⟨W, hW⟩ := hW
  have hoW : Only (· = w.heap.size) w2 W := by rw [hW]; exact (Only.set1 _ _ _ _).set2 _ _
  have hTrW : Blk W w.heap.size 88 #[.pointer r, .int .i64 τ.keys] := by rw [hW]; exact ((HTR2.out).set_ 0 _).set_ 1 _
  have hb2 := (HB1.out.drew.below hk1 hx1)
  have hbW := hb2.only hoW (show ¬ x = w.heap.size by omega)
  rw [← hW]
  refine leaves_cons (f := 52) (args := #[.pointer (some ⟨x, 0, none⟩)]) (by simp) (by simp [go_sem]) ?_
  refine (unlock_at .returning hbW rfl).mono ?_
  rintro e u' w4 ⟨rfl, rfl, hb4, ho4, hs4⟩
  have hTr4 := hTrW.only ho4 (show ¬ w.heap.size = x by omega)
  have r0 := cellOf hTr4 0 rfl
  have r1 := cellOf hTr4 1 rfl
  have hT2 := HT1.out.drew.below hk1 htl1
  refine ⟨.tuple #[.agg #[.pointer r, .int .i64 τ.keys], v], by simp [results, Tryz.results66, go_sem, r0, r1], v, ?_, ?_, hb4, ?_, ?_⟩
  · rw [hroot]
  · have h1 := HA.out.v
    have h2 := h1.only hoW (fun f hf _ cs hb e => by have : w1.heap.size ≤ f := hf; omega)
    exact (h2.only ho4 (fun f hf _ cs hb e => by have : w1.heap.size ≤ f := hf; omega)).mono (by show w.heap.size ≤ w1.heap.size; omega)
  · exact (hT2.only hoW (by omega)).only ho4 htx
  · have h1 : Only (· = x) w w1 := ((Only.refl _ _).alloc _).trans HO1.out
    have h2 : Only (· = x) w1 w2 := (Only.refl _ _).drew.below (Below.mono hk1 (Nat.le_refl _))
    exact ((h1.trans h2).trans' hoW (fun y hy e => by omega)).trans ho4
end Go.Proofs.YtemondlgcmpbbaaGreatDoor
