/- Walks: shadowlaw's record of a disk: close; small pieces. -/
import Derived.Test.YtemondlgcmpbbaaGreatDoorRf
import Derived.Test.YtemondlgcmpbbaaGreatDoorSc
import Derived.Test.YtemondlgcmpbbaaGreatDoorEn
namespace Go.Proofs.YtemondlgcmpbbaaGreatDoor
open Go.RowKit

/-- The law's record of a disk. -/
structure LdS where
  db : Nat
  n : Nat
  may : Value
  emp : Bool
  were : Value
  wild : Bool
  bit : Bool
  x : Value
  c : Value
  commits : Int
  poi : Bool
  ts : Value
  lists : Value
  want : Value
def LdS.cells (s : LdS) : Array Value := #[.pointer (some ⟨s.db, 0, none⟩), .int .i64 s.n, s.may, .bool s.emp, s.were, .bool s.wild, .bool s.bit, s.x, s.c, .int .i64 s.commits, .bool s.poi, s.ts, s.lists, s.want]
def LdAt (w : World) (p : Nat) (s : LdS) : Prop := Blk w p 245 s.cells
def LdS.closed (s : LdS) : LdS := { s with x := .pointer none, ts := .slice none 0 0, poi := false }

theorem close_any (p : Nat) (s : LdS) (w : World) (h : LdAt w p s) :
    Calls Tryz.prog 177 #[.pointer (some ⟨p, 0, none⟩)] w fun e w' => e = .returned (.tuple #[]) ∧ LdAt w' p s.closed ∧ Only (· = p) w w' := by
  obtain ⟨db, n, may, emp, were, wild, bit, x, c, commits, poi, ts, lists, want⟩ := s
  have c7 : w.cell? ⟨p, 7, none⟩ = some x := cellOf h 7 rfl
  have c11 : w.cell? ⟨p, 11, none⟩ = some ts := cellOf h 11 rfl
  have c10 : w.cell? ⟨p, 10, none⟩ = some (.bool poi) := cellOf h 10 rfl
  have z7 : w.frozen? ⟨p, 7, none⟩ = false := h.frozen 7
  have z11 : w.frozen? ⟨p, 11, none⟩ = false := h.frozen 11
  have z10 : w.frozen? ⟨p, 10, none⟩ = false := h.frozen 10
  have H := hide h
  clear h
  go_enter Tryz.func177, Tryz.ntmps177
  go_wp2
  go_end0
  exact ⟨rfl, ((Blk.set_ H.out 7 _).set_ 11 _).set_ 10 _, ((Only.set1 _ _ _ _).set2 _ _).set2 _ _⟩

theorem num_any (n : Int) (w : World) : Calls Tryz.prog 179 #[.int .i64 n] w fun e w' => e = .returned (.int .i64 n) ∧ w = w' := by
  go_enter Tryz.func179, Tryz.ntmps179
  go_wp2
  go_ret
  exact ⟨rfl, rfl⟩

theorem pairs_nil (w : World) : Calls Tryz.prog 200 #[.slice none 0 0] w fun e w' => e = .returned (.slice none 0 0) ∧ w = w' := by
  go_enter Tryz.func200, Tryz.ntmps200
  go_wp2
  refine wp_loop_rounds 1 ?_
  rw [rounds_succ]
  go_wp2
  go_ret
  exact ⟨rfl, rfl⟩

theorem same_nil (w : World) : Calls Tryz.prog 211 #[.slice none 0 0, .slice none 0 0] w fun e w' => e = .returned (.bool true) ∧ w = w' := by
  go_enter Tryz.func211, Tryz.ntmps211
  go_wp2
  refine wp_loop_rounds 1 ?_
  rw [rounds_succ]
  go_wp2
  go_ret
  exact ⟨rfl, rfl⟩

set_option maxRecDepth 100000 in
theorem has_one (n : Nat) (may were : Value) (emp wild bit : Bool) (w : World) (hM : MapsAt w may 1) :
    Calls Tryz.prog 201 #[.agg #[.int .i64 n, may, .bool emp, were, .bool wild, .bool bit], .slice none 0 0] w fun e w' => e = .returned (.bool true) ∧ Below w.heap.size w w' := by
  have hb0 : Below w.heap.size w (w.alloc (.cells #[.int .i64 n, may, .bool emp, were, .bool wild, .bool bit] 238)) := (Below.refl _ _).alloc (Nat.le_refl _) _
  obtain ⟨A, c, rfl, hr⟩ := hM.form
  obtain ⟨ad, hA, hlt, hc⟩ := hr.2 (by omega)
  subst hA
  have c0 := hc 0 eMap rfl
  have hadd : ad.add 0 = ad := rfl
  rw [hadd] at c0
  have c0' := fun o => cellA o c0
  unfold eMap at c0'
  clear hM hr hc c0
  go_enter Tryz.func201, Tryz.ntmps201
  go_wp2
  refine wp_loop_rounds 1 ?_
  rw [rounds_succ]
  go_wp2_with (go_at_call 211; refine (same_nil _).mono ?_; rintro e w' ⟨rfl, rfl⟩)
  go_ret
  exact ⟨rfl, hb0⟩

/-- What the law knows of a disk on which there was never a tree. -/
structure LdOk (w : World) (s : LdS) (kM kW : Nat) : Prop where
  may : MapsAt w s.may kM
  were : MapsAt w s.were kW
  emp : s.emp = false
  wild : s.wild = false
  bit : s.bit = false
  kM : kM ≤ 90000
  kW : kW ≤ 90000

theorem ld_cells {w : World} {p db n : Nat} {may : Value} {emp : Bool} {were : Value} {wild bit : Bool} {x c : Value} {commits : Int} {poi : Bool} {ts lists want : Value} (h : LdAt w p ⟨db, n, may, emp, were, wild, bit, x, c, commits, poi, ts, lists, want⟩) :
    w.cell? ⟨p, 0, none⟩ = some (.pointer (some ⟨db, 0, none⟩)) ∧ w.cell? ⟨p, 1, none⟩ = some (.int .i64 n) ∧ w.cell? ⟨p, 2, none⟩ = some may ∧ w.cell? ⟨p, 3, none⟩ = some (.bool emp) ∧ w.cell? ⟨p, 4, none⟩ = some were ∧ w.cell? ⟨p, 5, none⟩ = some (.bool wild) ∧ w.cell? ⟨p, 6, none⟩ = some (.bool bit) :=
  ⟨cellOf h 0 rfl, cellOf h 1 rfl, cellOf h 2 rfl, cellOf h 3 rfl, cellOf h 4 rfl, cellOf h 5 rfl, cellOf h 6 rfl⟩
theorem ld_more {w : World} {p db n : Nat} {may : Value} {emp : Bool} {were : Value} {wild bit : Bool} {x c : Value} {commits : Int} {poi : Bool} {ts lists want : Value} (h : LdAt w p ⟨db, n, may, emp, were, wild, bit, x, c, commits, poi, ts, lists, want⟩) :
    w.cell? ⟨p, 7, none⟩ = some x ∧ w.cell? ⟨p, 8, none⟩ = some c ∧ w.cell? ⟨p, 9, none⟩ = some (.int .i64 commits) ∧ w.cell? ⟨p, 10, none⟩ = some (.bool poi) ∧ w.cell? ⟨p, 11, none⟩ = some ts ∧ w.cell? ⟨p, 12, none⟩ = some lists ∧ w.cell? ⟨p, 13, none⟩ = some want :=
  ⟨cellOf h 7 rfl, cellOf h 8 rfl, cellOf h 9 rfl, cellOf h 10 rfl, cellOf h 11 rfl, cellOf h 12 rfl, cellOf h 13 rfl⟩
theorem ld_thaw {w : World} {p : Nat} {s : LdS} (h : LdAt w p s) : w.frozen? ⟨p, 1, none⟩ = false ∧ w.frozen? ⟨p, 2, none⟩ = false ∧ w.frozen? ⟨p, 3, none⟩ = false ∧ w.frozen? ⟨p, 4, none⟩ = false ∧ w.frozen? ⟨p, 5, none⟩ = false ∧ w.frozen? ⟨p, 6, none⟩ = false :=
  ⟨h.frozen 1, h.frozen 2, h.frozen 3, h.frozen 4, h.frozen 5, h.frozen 6⟩
end Go.Proofs.YtemondlgcmpbbaaGreatDoor
