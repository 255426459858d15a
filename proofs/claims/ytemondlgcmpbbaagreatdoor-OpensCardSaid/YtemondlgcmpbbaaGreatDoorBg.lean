/- Walks: the lock as it is met here; Begin; may. -/
import Derived.Test.YtemondlgcmpbbaaGreatDoorTo
import Derived.Test.YtemondlgcmpbbaaGreatDoorRd
namespace Go.Proofs.YtemondlgcmpbbaaGreatDoor
open Go.RowKit

theorem lock_at {x : Nat} {T : TypeId} {cs : Array Value} {w : World} (h : Blk w x T cs) (h0 : cs[0]? = some (.int .i32 0)) :
    Calls Tryz.prog 51 #[.pointer (some ⟨x, 0, none⟩)] w fun e w' => e = .returned (.tuple #[]) ∧ Blk w' x T (cs.setIfInBounds 0 (.int .i32 1)) ∧ Only (· = x) w w' ∧ w'.heap.size = w.heap.size := by
  refine (MuLone.lock_free muLib ⟨x, 0, none⟩ w (by rw [h.cell]; exact h0) (h.frozen 0)).mono ?_
  rintro e w' ⟨rfl, rfl⟩
  exact ⟨rfl, h.set_ 0 _, Only.set1 _ _ _ _, by simp [World.setCell]⟩
theorem unlock_at {x : Nat} {T : TypeId} {cs : Array Value} {w : World} (u : FrameMode) (h : Blk w x T cs) (h0 : cs[0]? = some (.int .i32 1)) :
    CallsD Tryz.prog 52 #[.pointer (some ⟨x, 0, none⟩)] u w fun e u' w' => u' = u ∧ (e = .returned (.tuple #[]) ∧ Blk w' x T (cs.setIfInBounds 0 (.int .i32 0)) ∧ Only (· = x) w w' ∧ w'.heap.size = w.heap.size) := by
  refine (MuLone.unlock_deferred muLib ⟨x, 0, none⟩ u w (by rw [h.cell]; exact h0) (h.frozen 0)).mono ?_
  rintro e u' w' ⟨rfl, rfl, rfl⟩
  exact ⟨rfl, rfl, h.set_ 0 _, Only.set1 _ _ _ _, by simp [World.setCell]⟩

/-- A transaction. -/
structure TxS where
  db : Nat
  root : Value
  keys : Int
  write : Bool
  done : Bool
  stamp : Int
def TxAt (w : World) (t : Nat) (s : TxS) : Prop := Blk w t 94 #[.pointer (some ⟨s.db, 0, none⟩), s.root, .int .i64 s.keys, .bool s.write, .bool s.done, .int .i64 s.stamp]
/-- The store's block while it is locked. -/
def DbCells (s : DbS) (l : Int) : Array Value := #[.int .i32 l, .int .u32 0, .pointer (some ⟨s.dk, 0, none⟩), s.root, .int .i64 s.keys, s.writer, .map (some s.rd), .bool s.poi]

theorem World.eq_of (w w' : World) (h1 : w'.heap = w.heap) : w'.heap.size = w.heap.size := by rw [h1]

set_option maxRecDepth 100000 in
set_option maxHeartbeats 1000000 in
theorem begin_okR (x : Nat) (s : DbS) (ks : List Nat) (w : World) (h : DbAt w x s) (hp : s.poi = false) (hr : RdAt w s.rd ks) (hk : ∀ k ∈ ks, TxB w k) (h4 : ks.length < 4) :
    Calls Tryz.prog 22 #[.pointer (some ⟨x, 0, none⟩), .bool false] w fun e w' => ∃ t, e = .returned (.tuple #[.pointer (some ⟨t, 0, none⟩), .nilIface]) ∧ TxAt w' t ⟨x, s.root, s.keys, false, false, 0⟩ ∧ DbAt w' x s ∧ RdAt w' s.rd (ks ++ [t]) ∧ w.heap.size ≤ t ∧ Only (fun y => y = x ∨ y = s.rd) w w' := by
  obtain ⟨dk, root, keys, writer, rd, poi⟩ := s
  simp only at hp hr
  subst hp
  have hrx : rd ≠ x := hr.ne_blk h
  have HL := hide (lock_at h rfl)
  have h4' : ¬ (ks.length : Int) = 4 := by omega
  have h4b : decide ((ks.length : Int) = 4) = false := by simpa using h4'
  have h4c : ((ks.length : Int) == 4) = false := by simpa using h4'
  have HR := hide hr
  have HK := hide hk
  have HXL := hide h.lt
  have HKX := hide (show ∀ k ∈ ks, k ≠ x from fun k hk' e => by obtain ⟨cs, hb⟩ := hk k hk'; subst e; exact Blk.ne_ hb h (by decide) rfl)
  have H4 := hide h4
  clear h hr hk
  go_enter_defers Tryz.func22, Tryz.ntmps22
  go_wp2_with (go_at_call 51; refine HL.out.mono ?_; rintro e w1 ⟨rfl, hb1, ho1, hs1⟩
               have c2 : w1.cell? ⟨x, 3, none⟩ = some root := cellOf hb1 3 rfl
               have c3 : w1.cell? ⟨x, 4, none⟩ = some (.int .i64 keys) := cellOf hb1 4 rfl
               have c5 : w1.cell? ⟨x, 5, none⟩ = some writer := cellOf hb1 5 rfl
               have c6 : w1.cell? ⟨x, 6, none⟩ = some (.map (some rd)) := cellOf hb1 6 rfl
               have c6' := fun o => cellA o c6
               have c7 : w1.cell? ⟨x, 7, none⟩ = some (.bool false) := cellOf hb1 7 rfl
               have hr1 := HR.out.only ho1 hrx
               have hl := fun ty => rd_len hr1 ty
               obtain ⟨W2, hW2⟩ : ∃ W2, W2 = w1.alloc (.cells #[.pointer (some ⟨x, 0, none⟩), root, .int .i64 keys, .bool false, .bool false, .int .i64 0] 94) := ⟨_, rfl⟩
               have hoA : Only (fun _ => False) w1 W2 := by rw [hW2]; exact (Only.refl _ _).alloc _
               have hT2 : TxAt W2 w1.heap.size ⟨x, root, keys, false, false, 0⟩ := by rw [hW2]; exact Blk.new _ _ _
               have hkl : ∀ k ∈ ks, k < w.heap.size := fun k hk => by obtain ⟨_, hb⟩ := HK.out k hk; exact hb.lt
               obtain ⟨w3, hrun, hr3, ho3, hs3⟩ := rd_put (w := W2) (x := w1.heap.size) (hr1.only hoA id) (fun k hk => by obtain ⟨cs, hb⟩ := HK.out k hk; exact ⟨cs, (hb.only ho1 (HKX.out k hk)).only hoA id⟩) ⟨_, hT2⟩ (fun hm => by have := hkl _ hm; omega) (.int .i64 1)
               unfold pk at hrun
               rw [hW2] at hrun
               have HB1 := hide hb1
               have HO1 := hide ho1
               have HS1 := hide hs1
               have HOA := hide hoA
               have HT2 := hide hT2
               have HR3 := hide hr3
               have HO3 := hide ho3
               have HW2 := hide hW2
               clear hb1 ho1 hs1 hr1 hoA hT2 hr3 ho3 hs3 hW2 hkl)
  have hxl := HXL.out
  have hz1 := HS1.out
  have hrl := HR.out.lt
  have hb3 : Blk w3 x 91 _ := (HB1.out.only HOA.out id).only HO3.out (fun e => hrx e.symm)
  have hT3 := HT2.out.only HO3.out (show ¬ w1.heap.size = rd by omega)
  refine leaves_cons (f := 52) (args := #[.pointer (some ⟨x, 0, none⟩)]) (by simp) (by simp [go_sem]) ?_
  refine (unlock_at .returning hb3 rfl).mono ?_
  rintro e u' w4 ⟨rfl, rfl, hb4, ho4, hs4⟩
  refine ⟨_, results_tmp2 rfl _ _ _, ?_⟩
  refine ⟨w1.heap.size, rfl, hT3.only ho4 (by omega), hb4, HR3.out.only ho4 hrx, by omega, ?_⟩
  exact Only.trans' (fp := fun y => y = x ∨ y = rd) ((HO1.out.mono fun _ _ h => .inl h).trans (HOA.out.mono fun _ _ h => h.elim)) (HO3.out.mono (fq := fun y => y = x ∨ y = rd) (fun _ _ h => .inr h) |>.trans (ho4.mono fun _ _ h => .inl h)) (fun y _ h => h)
end Go.Proofs.YtemondlgcmpbbaaGreatDoor
