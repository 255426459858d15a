/- Walks: (*Txn).may. -/
import Derived.Test.YtemondlgcmpbbaaGreatDoorBg
namespace Go.Proofs.YtemondlgcmpbbaaGreatDoor
open Go.RowKit

/-- What stands against an operation: the error's number; nought: nothing does. -/
def mayC (poi done change write : Bool) : Nat := if poi then 7 else if done then 5 else if change && !write then 6 else 0
/-- An answer that is nil, or a new fault of that number. -/
def Ans (w w' : World) (v : Value) (op : ByteArray) (c : Nat) : Prop := Below w.heap.size w w' ∧ ((c = 0 ∧ v = .nilIface ∧ w = w') ∨ (c ≠ 0 ∧ ∃ f, v = faultV f ∧ FaultAt w' f op c ∧ w.heap.size ≤ f))
theorem Ans.ok (w : World) (op : ByteArray) : Ans w w .nilIface op 0 := ⟨Below.refl _ _, .inl ⟨rfl, rfl, rfl⟩⟩
theorem Ans.fault (w : World) (op : ByteArray) (c : Nat) (h : c ≠ 0) : Ans w (w.alloc (.cells #[.string op, .iface 44 (.int .i64 c)] 130)) (faultV w.heap.size) op c :=
  ⟨(Below.refl _ _).alloc (Nat.le_refl _) _, .inr ⟨h, _, rfl, Blk.new _ _ _, Nat.le_refl _⟩⟩

set_option maxHeartbeats 1000000 in
theorem may0_any (t x : Nat) (τ : TxS) (s : DbS) (l : Int) (op : ByteArray) (ch : Bool) (w : World) (hT : TxAt w t τ) (hD : Blk w x 91 (DbCells s l)) (hx : τ.db = x) :
    Calls Tryz.prog 54 #[.pointer (some ⟨t, 0, none⟩), .string op, .bool ch, .slice none 0 0] w fun e w' => ∃ v, e = .returned v ∧ Ans w w' v op (mayC s.poi τ.done ch τ.write) := by
  obtain ⟨db, root, keys, write, done, stamp⟩ := τ
  obtain ⟨dk, root', keys', writer, rd, poi⟩ := s
  subst hx
  have d7 : w.cell? ⟨db, 7, none⟩ = some (.bool poi) := cellOf hD 7 rfl
  have t0 : w.cell? ⟨t, 0, none⟩ = some (.pointer (some ⟨db, 0, none⟩)) := cellOf hT 0 rfl
  have t3 : w.cell? ⟨t, 3, none⟩ = some (.bool write) := cellOf hT 3 rfl
  have t4 : w.cell? ⟨t, 4, none⟩ = some (.bool done) := cellOf hT 4 rfl
  clear hT hD
  have hOK := Ans.ok w op
  have hF := fun c h => Ans.fault w op c h
  cases poi <;> cases done <;> cases ch <;> cases write <;>
  · simp only [mayC, Bool.and_true, Bool.and_false, Bool.not_true, Bool.not_false, if_true, if_false, Bool.false_eq_true, Bool.and_self]
    go_enter Tryz.func54, Tryz.ntmps54
    go_wp2_with (go_at_call 53; refine (fail_any _ _ _).mono ?_; rintro e w' ⟨rfl, rfl⟩)
    first
      | (go_ret; exact ⟨_, rfl, hF _ (by decide)⟩)
      | (refine wp_loop_rounds 1 ?_
         rw [rounds_succ]
         go_wp2
         go_ret
         exact ⟨_, rfl, hOK⟩)

/-- .. of an operation on a key. -/
def mayK (poi done change write : Bool) (k : ByteArray) : Nat := if poi then 7 else if done then 5 else if change && !write then 6 else if k.size < 1 ∨ 8 < k.size then 1 else 0

set_option maxHeartbeats 1000000 in
theorem may1_any (t x : Nat) (τ : TxS) (s : DbS) (l : Int) (op k : ByteArray) (ch : Bool) (g : Nat) (w : World) (hT : TxAt w t τ) (hD : Blk w x 91 (DbCells s l)) (hx : τ.db = x) (hg : w.cell? ⟨g, 0, none⟩ = some (.string k)) (hk : k.size ≤ 9223372036854775807) :
    Calls Tryz.prog 54 #[.pointer (some ⟨t, 0, none⟩), .string op, .bool ch, .slice (some ⟨g, 0, none⟩) 1 1] w fun e w' => ∃ v, e = .returned v ∧ Ans w w' v op (mayK s.poi τ.done ch τ.write k) := by
  obtain ⟨db, root, keys, write, done, stamp⟩ := τ
  obtain ⟨dk, root', keys', writer, rd, poi⟩ := s
  subst hx
  have d7 : w.cell? ⟨db, 7, none⟩ = some (.bool poi) := cellOf hD 7 rfl
  have t0 : w.cell? ⟨t, 0, none⟩ = some (.pointer (some ⟨db, 0, none⟩)) := cellOf hT 0 rfl
  have t3 : w.cell? ⟨t, 3, none⟩ = some (.bool write) := cellOf hT 3 rfl
  have t4 : w.cell? ⟨t, 4, none⟩ = some (.bool done) := cellOf hT 4 rfl
  clear hT hD
  have hOK := Ans.ok w op
  have hF := fun c h => Ans.fault w op c h
  by_cases hbad : k.size < 1 ∨ 8 < k.size
  · have hq : (decide ((k.size : Int) < 1) || decide (8 < (k.size : Int))) = true := by
      simp only [Bool.or_eq_true, decide_eq_true_eq]; omega
    have HQ := hide hq
    have HBAD := hide hbad
    rcases hbad with hb | hb
    · have hb' : (k.size : Int) < 1 := by omega
      have hb'' : k.size = 0 := by omega
      cases poi <;> cases done <;> cases ch <;> cases write <;>
      · simp only [mayK, Bool.and_true, Bool.and_false, Bool.not_true, Bool.not_false, if_true, if_false, Bool.false_eq_true, Bool.and_self, if_pos HBAD.out]
        go_enter Tryz.func54, Tryz.ntmps54
        go_wp2_with (go_at_call 53; refine (fail_any _ _ _).mono ?_; rintro e w' ⟨rfl, rfl⟩)
        first
          | (go_ret; exact ⟨_, rfl, hF _ (by decide)⟩)
          | (refine wp_loop_rounds 1 ?_
             rw [rounds_succ]
             go_wp2_with (go_at_call 53; refine (fail_any _ _ _).mono ?_; rintro e w' ⟨rfl, rfl⟩)
             go_ret
             exact ⟨_, rfl, hF _ (by decide)⟩)
    · have hb' : ¬ (k.size : Int) < 1 := by omega
      have hb'' : (8 : Int) < (k.size : Int) := by omega
      cases poi <;> cases done <;> cases ch <;> cases write <;>
      · simp only [mayK, Bool.and_true, Bool.and_false, Bool.not_true, Bool.not_false, if_true, if_false, Bool.false_eq_true, Bool.and_self, if_pos HBAD.out]
        go_enter Tryz.func54, Tryz.ntmps54
        go_wp2_with (go_at_call 53; refine (fail_any _ _ _).mono ?_; rintro e w' ⟨rfl, rfl⟩)
        first
          | (go_ret; exact ⟨_, rfl, hF _ (by decide)⟩)
          | (refine wp_loop_rounds 1 ?_
             rw [rounds_succ]
             go_wp2_with (go_at_call 53; refine (fail_any _ _ _).mono ?_; rintro e w' ⟨rfl, rfl⟩)
             go_ret
             exact ⟨_, rfl, hF _ (by decide)⟩)
  · have h1 : ¬ (k.size : Int) < 1 := by omega
    have h2 : ¬ (8 : Int) < (k.size : Int) := by omega
    have HBAD := hide hbad
    cases poi <;> cases done <;> cases ch <;> cases write <;>
    · simp only [mayK, Bool.and_true, Bool.and_false, Bool.not_true, Bool.not_false, if_true, if_false, Bool.false_eq_true, Bool.and_self, if_neg HBAD.out]
      go_enter Tryz.func54, Tryz.ntmps54
      go_wp2_with (go_at_call 53; refine (fail_any _ _ _).mono ?_; rintro e w' ⟨rfl, rfl⟩)
      first
        | (go_ret; exact ⟨_, rfl, hF _ (by decide)⟩)
        | (refine wp_loop_rounds 2 ?_
           rw [rounds_succ]
           go_wp2
           rw [rounds_succ]
           go_wp2
           go_ret
           exact ⟨_, rfl, hOK⟩)
end Go.Proofs.YtemondlgcmpbbaaGreatDoor
