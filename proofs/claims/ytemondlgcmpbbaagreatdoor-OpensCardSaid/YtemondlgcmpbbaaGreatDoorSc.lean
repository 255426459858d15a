/- Walks: what an empty transaction shows: All, Scan at no tree. -/
import Derived.Test.YtemondlgcmpbbaaGreatDoorSe
import Derived.RangeFuncFrom
import Derived.RangeFuncNested
import Derived.RangeFuncBound
import Derived.RangeFuncCalls
import Derived.RangeFuncLeaves
import Derived.Shelf.Abstract
import Derived.Shelf.RegionOpen
import Derived.OwnWalkIn
import Derived.TacticsInMore
import Derived.LoopNIn
import Derived.LoopIn
namespace Go.Proofs.YtemondlgcmpbbaaGreatDoor
open Go.RowKit Go.Shelf

theorem Only.back {x : Nat} {T : TypeId} {cs : Array Value} {w w' : World} (h : Only (· = x) w w') (a : Blk w x T cs) (b : Blk w' x T cs) : Below w.heap.size w w' :=
  ⟨h.os, h.tape, h.output, h.size, fun y hy => by
    by_cases e : y = x
    · subst e; exact b.trans a.symm
    · exact h.block y hy e⟩
theorem Below.grown {w w' : World} (h : Below w.heap.size w w') : w.grownBy w' none := ⟨h.os, h.tape, h.output, h.size, fun k hk _ => h.block k hk⟩

set_option maxRecDepth 100000 in
set_option maxHeartbeats 1000000 in
theorem all1_nil (t x b0 b1 b2 k : Nat) (τ : TxS) (s : DbS) (lo _hi : ByteArray) (w : World) (hT : TxAt w t τ) (hD : DbAt w x s) (hx : τ.db = x) (hroot : τ.root = .pointer none) (hok : mayC s.poi τ.done false τ.write = 0)
    (h0 : Blk w b0 29 #[.pointer (some ⟨t, 0, none⟩)]) (h1 : Blk w b1 9 #[.string lo]) :
    Calls Tryz.prog 140 #[.func (.yield k) #[] #[], .pointer (some ⟨b0, 0, none⟩), .pointer (some ⟨b1, 0, none⟩), .pointer (some ⟨b2, 0, none⟩)] w fun e w' => (∃ v, e = .returned v) ∧ Below w.heap.size w w' := by
  have hmf : ∀ (fn : Fn) (first cap : Array Value) (w : World), (Instr.makeFunc fn first cap).run Tryz.prog w = .ok (.func fn first cap) w := fun _ _ _ _ => rfl
  have hbA := (Below.refl w.heap.size w).alloc (Nat.le_refl _) (.cells #[.func (.yield k) #[] #[]] 226)
  have c0 := fun o => cellA o (cellOf h0 0 rfl)
  have HS := hide (see_any t x τ s ⟨#[97, 108, 108]⟩ _ (hT.below hbA hT.lt) (hD.below hbA hD.lt) hx none hroot)
  rw [hok, hroot] at HS
  have HD := hide (hD.below hbA hD.lt)
  have HB := hide hbA
  have H1 := hide (h1.below hbA h1.lt)
  clear hT hD h0 h1 hbA
  go_enter Tryz.func140, Tryz.ntmps140
  go_wp2_with (first
    | (go_at_call 66; refine HS.out.mono ?_; rintro e w1 ⟨v, rfl, hv, hd1, ht1, ho1⟩
       have hb1 := ho1.back HD.out hd1
       obtain rfl : v = .nilIface := by
         rcases hv with h | h
         · exact h.2
         · exact absurd rfl h.1
       have e1 := fun o => cellA o (cellOf (H1.out.below hb1 H1.out.lt) 0 rfl)
       have HB1 := hide hb1
       clear hb1 hv hd1 ht1 ho1)
    | (go_at_call 105; go_in))
  go_end0
  go_wp2
  go_end0
  refine ⟨⟨_, rfl⟩, ?_⟩
  have h1 := HB.out.trans (HB1.out.mono (by simp))
  have hz := h1.size
  exact (h1.alloc (by omega) _).alloc (by simp; omega) _

theorem all_any (t : Nat) (lo hi : ByteArray) (w : World) :
    Calls Tryz.prog 102 #[.pointer (some ⟨t, 0, none⟩), .string lo, .string hi] w fun e w' => e = .returned (.func (.func 140) #[] #[.pointer (some ⟨w.heap.size, 0, none⟩), .pointer (some ⟨w.heap.size + 1, 0, none⟩), .pointer (some ⟨w.heap.size + 1 + 1, 0, none⟩)]) ∧
      w' = ((w.alloc (.cells #[.pointer (some ⟨t, 0, none⟩)] 29)).alloc (.cells #[.string lo] 9)).alloc (.cells #[.string hi] 9) := by
  have hmf : ∀ (fn : Fn) (first cap : Array Value) (w : World), (Instr.makeFunc fn first cap).run Tryz.prog w = .ok (.func fn first cap) w := fun _ _ _ _ => rfl
  go_enter Tryz.func102, Tryz.ntmps102
  go_wp2
  go_ret
  exact ⟨rfl, rfl⟩

attribute [local go_sem] Oper.semAt_some

set_option maxRecDepth 100000 in
set_option maxHeartbeats 2000000 in
theorem scan_nil (t x : Nat) (τ : TxS) (s : DbS) (lo hi : ByteArray) (most : Int) (hm : 0 < most) (w : World) (hT : TxAt w t τ) (hD : DbAt w x s) (hx : τ.db = x) (hroot : τ.root = .pointer none) (hok : mayC s.poi τ.done false τ.write = 0) :
    Calls Tryz.prog 64 #[.pointer (some ⟨t, 0, none⟩), .string lo, .string hi, .int .i64 most] w fun e w' => e = .returned (.tuple #[.slice none 0 0, .nilIface]) ∧ Below w.heap.size w w' := by
  have hml : ¬ most < 1 := by omega
  refine (callsIn_wide (n := 3)).1 ?_
  refine callsIn_of_wp_marks Tryz.func64 rfl trivial ?_ rfl
  simp only [Tryz.ntmps64, List.size_toArray, List.length_cons, List.length_nil, Nat.reduceAdd, Nat.reduceSub, Array.replicate_succ, Array.replicate_zero, List.push_toArray, List.append_toArray, List.nil_append, List.cons_append]
  gi_wp2_with (refine ⟨trivial, ?_⟩; gi_at_call 102; refine (callsIn_wide.2 (all_any t lo hi _)).mono ?_; rintro e w' ⟨rfl, rfl⟩)
  obtain ⟨W0, hW0⟩ : ∃ W0, W0 = ((((((w.alloc (.cells #[.int .i64 most] 3)).alloc (.cells #[.slice none 0 0] 39)).alloc (.cells #[.nilIface] 31)).alloc (.cells #[.slice none 0 0] 39)).alloc (.cells #[.pointer (some ⟨t, 0, none⟩)] 29)).alloc (.cells #[.string lo] 9)).alloc (.cells #[.string hi] 9) := ⟨_, rfl⟩
  have hz : W0.heap.size = w.heap.size + 7 := by rw [hW0]; simp only [World.size_alloc]
  have hbel : Below w.heap.size w W0 := by
    rw [hW0]
    exact ((((((((Below.refl w.heap.size w).alloc (by simp) _).alloc (by simp) _).alloc (by simp; omega) _).alloc (by simp; omega) _).alloc (by simp; omega) _).alloc (by simp; omega) _).alloc (by simp; omega) _)
  have hA : W0.cell? ⟨w.heap.size + 1 + 1 + 1, 0, none⟩ = some (.slice none 0 0) := by
    rw [hW0]
    refine cellA _ (cellA _ (cellA _ ?_))
    have := cellOf (Blk.new (((w.alloc (.cells #[.int .i64 most] 3)).alloc (.cells #[.slice none 0 0] 39)).alloc (.cells #[.nilIface] 31)) 39 #[.slice none 0 0]) 0 rfl
    simpa using this
  have hR1 : Blk W0 (w.heap.size + 1) 39 #[.slice none 0 0] := by
    rw [hW0]
    exact (((((Blk.new2 w _ _ _).alloc _).alloc _).alloc _).alloc _).alloc _
  have hR2 : Blk W0 (w.heap.size + 1 + 1) 31 #[.nilIface] := by
    rw [hW0]
    have := Blk.new2 (w.alloc (.cells #[.int .i64 most] 3)) (.cells #[.slice none 0 0] 39) 31 #[.nilIface]
    rw [World.size_alloc] at this
    exact (((this.alloc _).alloc _).alloc _).alloc _
  have hB0 : Blk W0 (w.heap.size + 1 + 1 + 1 + 1) 29 #[.pointer (some ⟨t, 0, none⟩)] := by
    rw [hW0]
    have := Blk.new ((((w.alloc (.cells #[.int .i64 most] 3)).alloc (.cells #[.slice none 0 0] 39)).alloc (.cells #[.nilIface] 31)).alloc (.cells #[.slice none 0 0] 39)) 29 #[.pointer (some ⟨t, 0, none⟩)]
    simp only [World.size_alloc] at this
    exact (this.alloc _).alloc _
  have hB1 : Blk W0 (w.heap.size + 1 + 1 + 1 + 1 + 1) 9 #[.string lo] := by
    rw [hW0]
    have := Blk.new (((((w.alloc (.cells #[.int .i64 most] 3)).alloc (.cells #[.slice none 0 0] 39)).alloc (.cells #[.nilIface] 31)).alloc (.cells #[.slice none 0 0] 39)).alloc (.cells #[.pointer (some ⟨t, 0, none⟩)] 29)) 9 #[.string lo]
    simp only [World.size_alloc] at this
    exact this.alloc _
  have hT0 := hT.below hbel hT.lt
  have hD0 := hD.below hbel hD.lt
  rw [← hW0]
  refine wpIn_rangeFunc_ownH (α := Empty) rfl (by omega) (gf := 140) (lb := #[.pointer (some ⟨w.heap.size + 1 + 1 + 1 + 1, 0, none⟩), .pointer (some ⟨w.heap.size + 1 + 1 + 1 + 1 + 1, 0, none⟩), .pointer (some ⟨w.heap.size + 1 + 1 + 1 + 1 + 1 + 1, 0, none⟩)]) rfl trivial (enters_of Tryz.func140 (by kernel_rfl) rfl)
    (encs := fun x => x.elim) (Kp := fun _ _ => True) (S := fun _ => True) (Sp := fun _ => False) (N := 0) (w0 := W0) ?hseq (fun _ _ => trivial) (fun _ _ _ _ _ _ _ _ => trivial) (Below.refl _ _) (fun x => x.elim)
    (fun _ W => Below W0.heap.size W0 W) (fun _ _ _ => False) (ownFrom_below (Nat.le_refl _) (Nat.le_refl _)) (fun _ _ _ _ _ h _ _ => h) (Below.refl _ _) (fun x _ _ => x.elim) (fun x => x.elim) (fun _ _ x => x.elim) (fun _ _ x => x.elim) ?done (fun _ _ _ _ _ h => h.elim)
  case hseq =>
    intro l J Jx W hW hJ hJx _ h0
    refine callsIn_wide.2 ((all1_nil t x _ _ _ l τ s lo hi W (hT0.below hW hT0.lt) (hD0.below hW hD0.lt) hx hroot hok (hB0.below hW hB0.lt) (hB1.below hW hB1.lt)).mono ?_)
    rintro e w' ⟨hv, hb⟩
    exact ⟨hv, .inl ⟨[], trivial, hJ [] W w' none h0 (Below.grown hb) (fun r e => by cases e)⟩⟩
  case done =>
    rintro D ys W hDs _ hW hK
    have c1 : W.cell? ⟨w.heap.size + 1 + 1 + 1, 0, none⟩ = some (.slice none 0 0) := below_cell hA hW
    have hr1 := hR1.below hW hR1.lt
    have hr2 := hR2.below hW hR2.lt
    have c2 := cellOf hr1 0 rfl
    have c3 := cellOf hr2 0 rfl
    have f1 : W.frozen? ⟨w.heap.size + 1, 0, none⟩ = false := hr1.frozen 0
    have f2 : W.frozen? ⟨w.heap.size + 1 + 1, 0, none⟩ = false := hr2.frozen 0
    gi_wp2
    obtain ⟨W2, hW2⟩ : ∃ W2, W2 = (W.setCell ⟨w.heap.size + 1, 0, none⟩ (.slice none 0 0)).setCell ⟨w.heap.size + 1 + 1, 0, none⟩ .nilIface := ⟨_, rfl⟩
    have hK2 : W2.heap[D]? = some (.deferred (some [])) := by rw [hW2]; exact ((KeepsOthers.setCell _ _ _).trans (KeepsOthers.setCell _ _ _)).same D _ hK rfl
    have hq1 : Blk W2 (w.heap.size + 1) 39 #[.slice none 0 0] := by rw [hW2]; exact (hr1.set_ 0 _).far (by simp) _
    have hq2 : Blk W2 (w.heap.size + 1 + 1) 31 #[.nilIface] := by rw [hW2]; exact (hr2.far (by simp) _).set_ 0 _
    have hb2 : Below w.heap.size w W2 := by
      rw [hW2]
      exact ((hbel.trans (hW.mono (by omega))).setCell (p := ⟨w.heap.size + 1, 0, none⟩) (by simp) _).setCell (p := ⟨w.heap.size + 1 + 1, 0, none⟩) (by simp; omega) _
    rw [← hW2]
    refine ⟨by simp, .inl ⟨_, _, rfl, run_takeDeferred hK2, ?_⟩⟩
    have g := grownBy_putObj' W2 D (.deferred none)
    have d1 := cell_kept (cellOf hq1 0 rfl) g (fun r e => by cases e; exact ⟨_, hK2, rfl⟩)
    have d2 := cell_kept (cellOf hq2 0 rfl) g (fun r e => by cases e; exact ⟨_, hK2, rfl⟩)
    refine ⟨.tuple #[.slice none 0 0, .nilIface], by simp [results, Tryz.results64, go_sem, d1, d2], rfl, ?_⟩
    exact ⟨g.os.trans hb2.os, g.tape.trans hb2.tape, g.output.trans hb2.output, Nat.le_trans hb2.size g.size, fun y hy => (g.block y (Nat.lt_of_lt_of_le hy hb2.size) (fun e => by injection e; omega)).trans (hb2.block y hy)⟩
end Go.Proofs.YtemondlgcmpbbaaGreatDoor
