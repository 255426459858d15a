/- Sc En La Lb Lc Ld: merged. -/
import Derived.Test.YtemondlgcmpbbaaGreatDoorMX08
import Derived.RangeFuncFrom
import Derived.RangeFuncNested
import Derived.RangeFuncBound
import Derived.RangeFuncCalls
import Derived.RangeFuncLeaves
import Derived.Shelf.Abstract
import Derived.Shelf.RegionOpen
import Derived.OwnWalkIn
import Derived.TacticsInMore
import Derived.LoopNIn
import Derived.LoopIn
namespace Go.Proofs.YtemondlgcmpbbaaGreatDoor
open Go.RowKit Go.Shelf
set_option maxRecDepth 100000
theorem Only.back {x : Nat} {T : TypeId} {cs : Array Value} {w w' : World} (h : Only (· = x) w w') (a : Blk w x T cs) (b : Blk w' x T cs) : Below w.heap.size w w' :=
 ⟨h.os, h.tape, h.output, h.size, fun y hy => by
  by_cases e : y = x
  . subst e; exact b.trans a.symm
  . exact h.block y hy e⟩
theorem Below.grown {w w' : World} (h : Below w.heap.size w w') : w.grownBy w' none := ⟨h.os, h.tape, h.output, h.size, fun k hk _ => h.block k hk⟩
set_option maxHeartbeats 1000000 in
theorem zsc (t x b0 b1 b2 k : Nat) (τ : TxS) (s : DbS) (lo _hi : ByteArray) (w : World) (hT : TxAt w t τ) (hD : DbAt w x s) (hx : τ.db = x) (hroot : τ.root = .pointer none) (hok : mayC s.poi τ.done false τ.write = 0)
   (h0 : Blk w b0 29 #[.pointer (some ⟨t, 0, none⟩)]) (h1 : Blk w b1 9 #[.string lo]) :
   Calls Tryz.prog 140 #[.func (.yield k) #[] #[], .pointer (some ⟨b0, 0, none⟩), .pointer (some ⟨b1, 0, none⟩), .pointer (some ⟨b2, 0, none⟩)] w fun e w' => (∃ v, e = .returned v) /\ Below w.heap.size w w' := by
 have hmf : ∀ (fn : Fn) (first cap : Array Value) (w : World), (Instr.makeFunc fn first cap).run Tryz.prog w = .ok (.func fn first cap) w := fun _ _ _ _ => rfl
 have hbA := (Below.refl w.heap.size w).alloc (Nat.le_refl _) (.cells #[.func (.yield k) #[] #[]] 226)
 have c0 := fun o => zaj o (zab h0 0 rfl)
 have HS := zaa (zhp t x τ s ⟨#[97, 108, 108]⟩ _ (hT.below hbA hT.lt) (hD.below hbA hD.lt) hx none hroot)
 rw [hok, hroot] at HS
 have HD := zaa (hD.below hbA hD.lt)
 have HB := zaa hbA
 have H1 := zaa (h1.below hbA h1.lt)
 clear hT hD h0 h1 hbA
 go_enter Tryz.func140, Tryz.ntmps140
 go_wp2_with (first
  | (go_at_call 66; refine HS.out.mono ?_; rintro e w1 ⟨v, rfl, hv, hd1, ht1, ho1⟩
     have hb1 := ho1.back HD.out hd1
     obtain rfl : v = .nilIface := by
      rcases hv with h | h
      . exact h.2
      . exact absurd rfl h.1
     have e1 := fun o => zaj o (zab (H1.out.below hb1 H1.out.lt) 0 rfl)
     have HB1 := zaa hb1
     clear hb1 hv hd1 ht1 ho1)
  | (go_at_call 105; go_in))
 go_end0
 go_wp2
 go_end0
 refine ⟨⟨_, rfl⟩, ?_⟩
 have h1 := HB.out.trans (HB1.out.mono (by simp))
 have hz := h1.size
 exact (h1.alloc (by omega) _).alloc (by simp; omega) _
theorem zf5 (t : Nat) (lo hi : ByteArray) (w : World) :
   Calls Tryz.prog 102 #[.pointer (some ⟨t, 0, none⟩), .string lo, .string hi] w fun e w' => e = .returned (.func (.func 140) #[] #[.pointer (some ⟨w.heap.size, 0, none⟩), .pointer (some ⟨w.heap.size + 1, 0, none⟩), .pointer (some ⟨w.heap.size + 1 + 1, 0, none⟩)]) /\
    w' = ((w.alloc (.cells #[.pointer (some ⟨t, 0, none⟩)] 29)).alloc (.cells #[.string lo] 9)).alloc (.cells #[.string hi] 9) := by
 have hmf : ∀ (fn : Fn) (first cap : Array Value) (w : World), (Instr.makeFunc fn first cap).run Tryz.prog w = .ok (.func fn first cap) w := fun _ _ _ _ => rfl
 go_enter Tryz.func102, Tryz.ntmps102
 go_wp2
 go_ret
 exact ⟨rfl, rfl⟩
attribute [local go_sem] Oper.semAt_some
set_option maxHeartbeats 2000000 in
theorem zsd (t x : Nat) (τ : TxS) (s : DbS) (lo hi : ByteArray) (most : Int) (hm : 0 < most) (w : World) (hT : TxAt w t τ) (hD : DbAt w x s) (hx : τ.db = x) (hroot : τ.root = .pointer none) (hok : mayC s.poi τ.done false τ.write = 0) :
   Calls Tryz.prog 64 #[.pointer (some ⟨t, 0, none⟩), .string lo, .string hi, .int .i64 most] w fun e w' => e = .returned (.tuple #[.slice none 0 0, .nilIface]) /\ Below w.heap.size w w' := by
 have hml : ¬ most < 1 := by omega
 refine (callsIn_wide (n := 3)).1 ?_
 refine callsIn_of_wp_marks Tryz.func64 rfl trivial ?_ rfl
 simp only [Tryz.ntmps64, List.size_toArray, List.length_cons, List.length_nil, Nat.reduceAdd, Nat.reduceSub, Array.replicate_succ, Array.replicate_zero, List.push_toArray, List.append_toArray, List.nil_append, List.cons_append]
 gi_wp2_with (refine ⟨trivial, ?_⟩; gi_at_call 102; refine (callsIn_wide.2 (zf5 t lo hi _)).mono ?_; rintro e w' ⟨rfl, rfl⟩)
 obtain ⟨W0, hW0⟩ : ∃ W0, W0 = ((((((w.alloc (.cells #[.int .i64 most] 3)).alloc (.cells #[.slice none 0 0] 39)).alloc (.cells #[.nilIface] 31)).alloc (.cells #[.slice none 0 0] 39)).alloc (.cells #[.pointer (some ⟨t, 0, none⟩)] 29)).alloc (.cells #[.string lo] 9)).alloc (.cells #[.string hi] 9) := ⟨_, rfl⟩
 have hz : W0.heap.size = w.heap.size + 7 := by rw [hW0]; simp only [World.size_alloc]
 have hbel : Below w.heap.size w W0 := by
  rw [hW0]
  exact ((((((((Below.refl w.heap.size w).alloc (by simp) _).alloc (by simp) _).alloc (by simp; omega) _).alloc (by simp; omega) _).alloc (by simp; omega) _).alloc (by simp; omega) _).alloc (by simp; omega) _)
 have hA : W0.cell? ⟨w.heap.size + 1 + 1 + 1, 0, none⟩ = some (.slice none 0 0) := by
  rw [hW0]
  refine zaj _ (zaj _ (zaj _ ?_))
  have := zab (Blk.new (((w.alloc (.cells #[.int .i64 most] 3)).alloc (.cells #[.slice none 0 0] 39)).alloc (.cells #[.nilIface] 31)) 39 #[.slice none 0 0]) 0 rfl
  simpa using this
 have hR1 : Blk W0 (w.heap.size + 1) 39 #[.slice none 0 0] := by
  rw [hW0]
  exact (((((Blk.new2 w _ _ _).alloc _).alloc _).alloc _).alloc _).alloc _
 have hR2 : Blk W0 (w.heap.size + 1 + 1) 31 #[.nilIface] := by
  rw [hW0]
  have := Blk.new2 (w.alloc (.cells #[.int .i64 most] 3)) (.cells #[.slice none 0 0] 39) 31 #[.nilIface]
  rw [World.size_alloc] at this
  exact (((this.alloc _).alloc _).alloc _).alloc _
 have hB0 : Blk W0 (w.heap.size + 1 + 1 + 1 + 1) 29 #[.pointer (some ⟨t, 0, none⟩)] := by
  rw [hW0]
  have := Blk.new ((((w.alloc (.cells #[.int .i64 most] 3)).alloc (.cells #[.slice none 0 0] 39)).alloc (.cells #[.nilIface] 31)).alloc (.cells #[.slice none 0 0] 39)) 29 #[.pointer (some ⟨t, 0, none⟩)]
  simp only [World.size_alloc] at this
  exact (this.alloc _).alloc _
 have hB1 : Blk W0 (w.heap.size + 1 + 1 + 1 + 1 + 1) 9 #[.string lo] := by
  rw [hW0]
  have := Blk.new (((((w.alloc (.cells #[.int .i64 most] 3)).alloc (.cells #[.slice none 0 0] 39)).alloc (.cells #[.nilIface] 31)).alloc (.cells #[.slice none 0 0] 39)).alloc (.cells #[.pointer (some ⟨t, 0, none⟩)] 29)) 9 #[.string lo]
  simp only [World.size_alloc] at this
  exact this.alloc _
 have hT0 := hT.below hbel hT.lt
 have hD0 := hD.below hbel hD.lt
 rw [<- hW0]
 refine wpIn_rangeFunc_ownH (α := Empty) rfl (by omega) (gf := 140) (lb := #[.pointer (some ⟨w.heap.size + 1 + 1 + 1 + 1, 0, none⟩), .pointer (some ⟨w.heap.size + 1 + 1 + 1 + 1 + 1, 0, none⟩), .pointer (some ⟨w.heap.size + 1 + 1 + 1 + 1 + 1 + 1, 0, none⟩)]) rfl trivial (enters_of Tryz.func140 (by kernel_rfl) rfl)
  (encs := fun x => x.elim) (Kp := fun _ _ => True) (S := fun _ => True) (Sp := fun _ => False) (N := 0) (w0 := W0) ?hseq (fun _ _ => trivial) (fun _ _ _ _ _ _ _ _ => trivial) (Below.refl _ _) (fun x => x.elim)
  (fun _ W => Below W0.heap.size W0 W) (fun _ _ _ => False) (ownFrom_below (Nat.le_refl _) (Nat.le_refl _)) (fun _ _ _ _ _ h _ _ => h) (Below.refl _ _) (fun x _ _ => x.elim) (fun x => x.elim) (fun _ _ x => x.elim) (fun _ _ x => x.elim) ?done (fun _ _ _ _ _ h => h.elim)
 case hseq =>
  intro l J Jx W hW hJ hJx _ h0
  refine callsIn_wide.2 ((zsc t x _ _ _ l τ s lo hi W (hT0.below hW hT0.lt) (hD0.below hW hD0.lt) hx hroot hok (hB0.below hW hB0.lt) (hB1.below hW hB1.lt)).mono ?_)
  rintro e w' ⟨hv, hb⟩
  exact ⟨hv, .inl ⟨[], trivial, hJ [] W w' none h0 (Below.grown hb) (fun r e => by cases e)⟩⟩
 case done =>
  rintro D ys W hDs _ hW hK
  have c1 : W.cell? ⟨w.heap.size + 1 + 1 + 1, 0, none⟩ = some (.slice none 0 0) := za4 hA hW
  have hr1 := hR1.below hW hR1.lt
  have hr2 := hR2.below hW hR2.lt
  have c2 := zab hr1 0 rfl
  have c3 := zab hr2 0 rfl
  have f1 : W.frozen? ⟨w.heap.size + 1, 0, none⟩ = false := hr1.frozen 0
  have f2 : W.frozen? ⟨w.heap.size + 1 + 1, 0, none⟩ = false := hr2.frozen 0
  gi_wp2
  obtain ⟨W2, hW2⟩ : ∃ W2, W2 = (W.setCell ⟨w.heap.size + 1, 0, none⟩ (.slice none 0 0)).setCell ⟨w.heap.size + 1 + 1, 0, none⟩ .nilIface := ⟨_, rfl⟩
  have hK2 : W2.heap[D]? = some (.deferred (some [])) := by rw [hW2]; exact ((KeepsOthers.setCell _ _ _).trans (KeepsOthers.setCell _ _ _)).same D _ hK rfl
  have hq1 : Blk W2 (w.heap.size + 1) 39 #[.slice none 0 0] := by rw [hW2]; exact (hr1.set_ 0 _).far (by simp) _
  have hq2 : Blk W2 (w.heap.size + 1 + 1) 31 #[.nilIface] := by rw [hW2]; exact (hr2.far (by simp) _).set_ 0 _
  have hb2 : Below w.heap.size w W2 := by
   rw [hW2]
   exact ((hbel.trans (hW.mono (by omega))).setCell (p := ⟨w.heap.size + 1, 0, none⟩) (by simp) _).setCell (p := ⟨w.heap.size + 1 + 1, 0, none⟩) (by simp; omega) _
  rw [<- hW2]
  refine ⟨by simp, .inl ⟨_, _, rfl, run_takeDeferred hK2, ?_⟩⟩
  have g := grownBy_putObj' W2 D (.deferred none)
  have d1 := cell_kept (zab hq1 0 rfl) g (fun r e => by cases e; exact ⟨_, hK2, rfl⟩)
  have d2 := cell_kept (zab hq2 0 rfl) g (fun r e => by cases e; exact ⟨_, hK2, rfl⟩)
  refine ⟨.tuple #[.slice none 0 0, .nilIface], by simp [results, Tryz.results64, go_sem, d1, d2], rfl, ?_⟩
  exact ⟨g.os.trans hb2.os, g.tape.trans hb2.tape, g.output.trans hb2.output, Nat.le_trans hb2.size g.size, fun y hy => (g.block y (Nat.lt_of_lt_of_le hy hb2.size) (fun e => by injection e; omega)).trans (hb2.block y hy)⟩
end Go.Proofs.YtemondlgcmpbbaaGreatDoor
namespace Go.Proofs.YtemondlgcmpbbaaGreatDoor
open Go.RowKit
set_option maxRecDepth 100000
def DbS.ended (s : DbS) (wr : Bool) : DbS := { s with writer := if wr then .pointer none else s.writer }
def TxS.over (τ : TxS) : TxS := { τ with done := true }
theorem zgf {w W : World} {y : Nat} {ks : List Nat} (h : ∀ k ∈ ks, TxB w k) (ho : Only (· = y) w W) (hy : TxB W y \/ ¬ TxB w y) : ∀ k ∈ ks, TxB W k := by
 intro k hk
 obtain ⟨cs, hb⟩ := h k hk
 by_cases e : k = y
 . subst e
   rcases hy with hy | hy
   . exact hy
   . exact absurd ⟨cs, hb⟩ hy
 . exact ⟨cs, hb.only ho e⟩
theorem zn7 {w : World} {y : Nat} {T : TypeId} {cs : Array Value} (h : Blk w y T cs) (hT : 94 ≠ T) : ¬ TxB w y := fun ⟨_, hb⟩ => Blk.ne_ hb h hT rfl
set_option maxHeartbeats 1000000 in
theorem zt8 (t x : Nat) (τ : TxS) (s : DbS) (l : Int) (ks : List Nat) (w : World) (hT : TxAt w t τ) (hD : Blk w x 91 (zbw s l)) (hx : τ.db = x) (hr : RdAt w s.rd ks) (hk : ∀ k ∈ ks, TxB w k) :
   Calls Tryz.prog 59 #[.pointer (some ⟨t, 0, none⟩)] w fun e w' => e = .returned (.tuple #[]) /\ TxAt w' t τ.over /\ Blk w' x 91 (zbw (s.ended τ.write) l) /\ RdAt w' s.rd (ks.erase t) /\ Only (fun y => y = t \/ y = x \/ y = s.rd) w w' := by
 obtain ⟨db, root, keys, write, done, stamp⟩ := τ
 obtain ⟨dk, root', keys', writer, rd, poi⟩ := s
 subst hx
 simp only at hr
 have htx : t ≠ db := Blk.ne_ hT hD (by decide)
 have hrt : rd ≠ t := hr.ne_blk hT
 have hrx : rd ≠ db := hr.ne_blk hD
 have t0 : w.cell? ⟨t, 0, none⟩ = some (.pointer (some ⟨db, 0, none⟩)) := zab hT 0 rfl
 have t3 : w.cell? ⟨t, 3, none⟩ = some (.bool write) := zab hT 3 rfl
 have t4 : w.cell? ⟨t, 4, none⟩ = some (.bool done) := zab hT 4 rfl
 have z4 : w.frozen? ⟨t, 4, none⟩ = false := hT.frozen 4
 have d5 : w.cell? ⟨db, 5, none⟩ = some writer := zab hD 5 rfl
 have d6 : w.cell? ⟨db, 6, none⟩ = some (.map (some rd)) := zab hD 6 rfl
 have z5 : w.frozen? ⟨db, 5, none⟩ = false := hD.frozen 5
 cases write with
 | false =>
   obtain ⟨W, hW⟩ : ∃ W, W = w.setCell ⟨t, 4, none⟩ (.bool true) := ⟨_, rfl⟩
   have hoW : Only (· = t) w W := by rw [hW]; exact Only.set1 _ _ _ _
   have hTW : TxAt W t ⟨db, root, keys, false, true, stamp⟩ := by rw [hW]; exact Blk.set_ hT 4 _
   obtain ⟨w3, hrun, hr3, ho3, hs3⟩ := zn6 (w := W) (x := t) (hr.only hoW hrt) (zgf hk hoW (.inl ⟨_, hTW⟩)) ⟨_, hTW⟩ 0
   unfold pk at hrun
   rw [hW] at hrun
   have HR3 := zaa hr3
   have HT3 := zaa (Blk.only hTW ho3 (fun e : t = rd => hrt e.symm))
   have HD3 := zaa ((hD.only hoW (fun e => htx e.symm)).only ho3 (fun e => hrx e.symm))
   have HO := zaa (Only.trans (fp := fun y => y = t \/ y = db \/ y = rd) (hoW.mono fun _ _ h => .inl h) (ho3.mono fun _ _ h => .inr (.inr h)))
   clear hr hk hT hD hoW hTW hr3 ho3 hs3 hW
   go_enter Tryz.func59, Tryz.ntmps59
   go_wp2
   go_end0
   exact ⟨rfl, HT3.out, HD3.out, HR3.out, HO.out⟩
 | true =>
   obtain ⟨W1, hW1⟩ : ∃ W, W = w.setCell ⟨t, 4, none⟩ (.bool true) := ⟨_, rfl⟩
   have hoW1 : Only (· = t) w W1 := by rw [hW1]; exact Only.set1 _ _ _ _
   have hTW1 : TxAt W1 t ⟨db, root, keys, true, true, stamp⟩ := by rw [hW1]; exact Blk.set_ hT 4 _
   have hDW1 := hD.only hoW1 (fun e => htx e.symm)
   obtain ⟨W, hW⟩ : ∃ W, W = W1.setCell ⟨db, 5, none⟩ (.pointer none) := ⟨_, rfl⟩
   have hoW : Only (· = db) W1 W := by rw [hW]; exact Only.set1 _ _ _ _
   have hTW : TxAt W t ⟨db, root, keys, true, true, stamp⟩ := Blk.only hTW1 hoW htx
   have hDW : Blk W db 91 (zbw (DbS.ended ⟨dk, root', keys', writer, rd, poi⟩ true) l) := by rw [hW]; exact hDW1.set_ 5 _
   obtain ⟨w3, hrun, hr3, ho3, hs3⟩ := zn6 (w := W) (x := t) ((hr.only hoW1 hrt).only hoW hrx) (zgf (zgf hk hoW1 (.inl ⟨_, hTW1⟩)) hoW (.inr (zn7 hDW1 (by decide)))) ⟨_, hTW⟩ 0
   unfold pk at hrun
   rw [hW, hW1] at hrun
   have HR3 := zaa hr3
   have HT3 := zaa (Blk.only hTW ho3 (fun e : t = rd => hrt e.symm))
   have HD3 := zaa (hDW.only ho3 (fun e => hrx e.symm))
   have HO := zaa (Only.trans (fp := fun y => y = t \/ y = db \/ y = rd) ((hoW1.mono fun _ _ h => .inl h).trans (hoW.mono fun _ _ h => .inr (.inl h))) (ho3.mono fun _ _ h => .inr (.inr h)))
   clear hr hk hT hD hoW hTW hr3 ho3 hs3 hW hW1 hDW hDW1 hTW1 hoW1
   go_enter Tryz.func59, Tryz.ntmps59
   go_wp2
   go_end0
   exact ⟨rfl, HT3.out, HD3.out, HR3.out, HO.out⟩
set_option maxHeartbeats 1000000 in
theorem zkc (t x : Nat) (τ : TxS) (s : DbS) (ks : List Nat) (w : World) (hT : TxAt w t τ) (hD : DbAt w x s) (hx : τ.db = x) (hr : RdAt w s.rd ks) (hk : ∀ k ∈ ks, TxB w k) (hok : mayC s.poi τ.done false τ.write = 0) :
   Calls Tryz.prog 27 #[.pointer (some ⟨t, 0, none⟩)] w fun e w' => e = .returned .nilIface /\ TxAt w' t τ.over /\ DbAt w' x (s.ended τ.write) /\ RdAt w' s.rd (ks.erase t) /\ Only (fun y => y = t \/ y = x \/ y = s.rd) w w' := by
 have t0 : w.cell? ⟨t, 0, none⟩ = some (.pointer (some ⟨x, 0, none⟩)) := by rw [<- hx]; exact zab hT 0 rfl
 have htx : t ≠ x := Blk.ne_ hT hD (by decide)
 have hrt : s.rd ≠ t := hr.ne_blk hT
 have hrx : s.rd ≠ x := hr.ne_blk hD
 have HL := zaa (zce hD rfl)
 have HT := zaa hT
 have HR := zaa hr
 have HK := zaa (fun W (ho : Only (· = x) w W) => zgf hk ho (.inr (zn7 hD (by decide))))
 have HOK := zaa hok
 clear hT hD hr hk hok
 go_enter_defers Tryz.func27, Tryz.ntmps27
 go_wp2_with (first
  | (go_at_call 51; refine HL.out.mono ?_; rintro e w1 ⟨rfl, hb1, ho1, hs1⟩
     have hT1 := HT.out.only ho1 htx
     have k0 : w1.cell? ⟨t, 0, none⟩ = some (.pointer (some ⟨x, 0, none⟩)) := by rw [<- hx]; exact zab hT1 0 rfl
     have HM := zaa (zij t x τ s 1 ⟨#[97, 98, 111, 114, 116]⟩ false w1 hT1 hb1 hx)
     have HE := zaa (zt8 t x τ s 1 ks w1 hT1 hb1 hx (HR.out.only ho1 hrx) (HK.out _ ho1))
     rw [HOK.out] at HM
     have HO1 := zaa ho1
     clear hT1 hb1 ho1 hs1)
  | (go_at_call 54; refine HM.out.mono ?_; rintro e w' ⟨v, rfl, ha⟩
     obtain ⟨rfl, rfl⟩ : v = .nilIface /\ w1 = w' := by
      rcases ha.2 with h | h
      . exact ⟨h.2.1, h.2.2⟩
      . exact absurd rfl h.1
     clear ha)
  | (go_at_call 59; refine HE.out.mono ?_; rintro e w2 ⟨rfl, hT2, hD2, hR2, ho2⟩))
 refine leaves_cons (f := 52) (args := #[.pointer (some ⟨x, 0, none⟩)]) (by simp) (by simp [go_sem]) ?_
 refine (zbd .returning hD2 rfl).mono ?_
 rintro e u' w4 ⟨rfl, rfl, hb4, ho4, hs4⟩
 refine ⟨_, results_tmp rfl _ _ _, rfl, Blk.only hT2 ho4 htx, hb4, hR2.only ho4 hrx, ?_⟩
 exact Only.trans ((HO1.out.mono fun _ _ h => .inr (.inl h)).trans ho2) (ho4.mono fun _ _ h => .inr (.inl h))
structure LdS where
 db : Nat
 n : Nat
 may : Value
 emp : Bool
 were : Value
 wild : Bool
 bit : Bool
 x : Value
 c : Value
 commits : Int
 poi : Bool
 ts : Value
 lists : Value
 want : Value
def LdS.cells (s : LdS) : Array Value := #[.pointer (some ⟨s.db, 0, none⟩), .int .i64 s.n, s.may, .bool s.emp, s.were, .bool s.wild, .bool s.bit, s.x, s.c, .int .i64 s.commits, .bool s.poi, s.ts, s.lists, s.want]
def LdAt (w : World) (p : Nat) (s : LdS) : Prop := Blk w p 245 s.cells
def LdS.closed (s : LdS) : LdS := { s with x := .pointer none, ts := .slice none 0 0, poi := false }
theorem zen (p : Nat) (s : LdS) (w : World) (h : LdAt w p s) :
   Calls Tryz.prog 177 #[.pointer (some ⟨p, 0, none⟩)] w fun e w' => e = .returned (.tuple #[]) /\ LdAt w' p s.closed /\ Only (· = p) w w' := by
 obtain ⟨db, n, may, emp, were, wild, bit, x, c, commits, poi, ts, lists, want⟩ := s
 have c7 : w.cell? ⟨p, 7, none⟩ = some x := zab h 7 rfl
 have c11 : w.cell? ⟨p, 11, none⟩ = some ts := zab h 11 rfl
 have c10 : w.cell? ⟨p, 10, none⟩ = some (.bool poi) := zab h 10 rfl
 have z7 : w.frozen? ⟨p, 7, none⟩ = false := h.frozen 7
 have z11 : w.frozen? ⟨p, 11, none⟩ = false := h.frozen 11
 have z10 : w.frozen? ⟨p, 10, none⟩ = false := h.frozen 10
 have H := zaa h
 clear h
 go_enter Tryz.func177, Tryz.ntmps177
 go_wp2
 go_end0
 exact ⟨rfl, ((Blk.set_ H.out 7 _).set_ 11 _).set_ 10 _, ((Only.set1 _ _ _ _).set2 _ _).set2 _ _⟩
theorem za6 (n : Int) (w : World) : Calls Tryz.prog 179 #[.int .i64 n] w fun e w' => e = .returned (.int .i64 n) /\ w = w' := by
 go_enter Tryz.func179, Tryz.ntmps179
 go_wp2
 go_ret
 exact ⟨rfl, rfl⟩
theorem zql (w : World) : Calls Tryz.prog 200 #[.slice none 0 0] w fun e w' => e = .returned (.slice none 0 0) /\ w = w' := by
 go_enter Tryz.func200, Tryz.ntmps200
 go_wp2
 refine wp_loop_rounds 1 ?_
 rw [rounds_succ]
 go_wp2
 go_ret
 exact ⟨rfl, rfl⟩
theorem zse (w : World) : Calls Tryz.prog 211 #[.slice none 0 0, .slice none 0 0] w fun e w' => e = .returned (.bool true) /\ w = w' := by
 go_enter Tryz.func211, Tryz.ntmps211
 go_wp2
 refine wp_loop_rounds 1 ?_
 rw [rounds_succ]
 go_wp2
 go_ret
 exact ⟨rfl, rfl⟩
theorem zt9 (n : Nat) (may were : Value) (emp wild bit : Bool) (w : World) (hM : MapsAt w may 1) :
   Calls Tryz.prog 201 #[.agg #[.int .i64 n, may, .bool emp, were, .bool wild, .bool bit], .slice none 0 0] w fun e w' => e = .returned (.bool true) /\ Below w.heap.size w w' := by
 have hb0 : Below w.heap.size w (w.alloc (.cells #[.int .i64 n, may, .bool emp, were, .bool wild, .bool bit] 238)) := (Below.refl _ _).alloc (Nat.le_refl _) _
 obtain ⟨A, c, rfl, hr⟩ := hM.form
 obtain ⟨ad, hA, hlt, hc⟩ := hr.2 (by omega)
 subst hA
 have c0 := hc 0 zcr rfl
 have hadd : ad.add 0 = ad := rfl
 rw [hadd] at c0
 have c0' := fun o => zaj o c0
 unfold zcr at c0'
 clear hM hr hc c0
 go_enter Tryz.func201, Tryz.ntmps201
 go_wp2
 refine wp_loop_rounds 1 ?_
 rw [rounds_succ]
 go_wp2_with (go_at_call 211; refine (zse _).mono ?_; rintro e w' ⟨rfl, rfl⟩)
 go_ret
 exact ⟨rfl, hb0⟩
structure zff (w : World) (s : LdS) (kM kW : Nat) : Prop where
 may : MapsAt w s.may kM
 were : MapsAt w s.were kW
 emp : s.emp = false
 wild : s.wild = false
 bit : s.bit = false
 kM : kM <= 90000
 kW : kW <= 90000
theorem zar {w : World} {p db n : Nat} {may : Value} {emp : Bool} {were : Value} {wild bit : Bool} {x c : Value} {commits : Int} {poi : Bool} {ts lists want : Value} (h : LdAt w p ⟨db, n, may, emp, were, wild, bit, x, c, commits, poi, ts, lists, want⟩) :
   w.cell? ⟨p, 0, none⟩ = some (.pointer (some ⟨db, 0, none⟩)) /\ w.cell? ⟨p, 1, none⟩ = some (.int .i64 n) /\ w.cell? ⟨p, 2, none⟩ = some may /\ w.cell? ⟨p, 3, none⟩ = some (.bool emp) /\ w.cell? ⟨p, 4, none⟩ = some were /\ w.cell? ⟨p, 5, none⟩ = some (.bool wild) /\ w.cell? ⟨p, 6, none⟩ = some (.bool bit) :=
 ⟨zab h 0 rfl, zab h 1 rfl, zab h 2 rfl, zab h 3 rfl, zab h 4 rfl, zab h 5 rfl, zab h 6 rfl⟩
theorem zbi {w : World} {p db n : Nat} {may : Value} {emp : Bool} {were : Value} {wild bit : Bool} {x c : Value} {commits : Int} {poi : Bool} {ts lists want : Value} (h : LdAt w p ⟨db, n, may, emp, were, wild, bit, x, c, commits, poi, ts, lists, want⟩) :
   w.cell? ⟨p, 7, none⟩ = some x /\ w.cell? ⟨p, 8, none⟩ = some c /\ w.cell? ⟨p, 9, none⟩ = some (.int .i64 commits) /\ w.cell? ⟨p, 10, none⟩ = some (.bool poi) /\ w.cell? ⟨p, 11, none⟩ = some ts /\ w.cell? ⟨p, 12, none⟩ = some lists /\ w.cell? ⟨p, 13, none⟩ = some want :=
 ⟨zab h 7 rfl, zab h 8 rfl, zab h 9 rfl, zab h 10 rfl, zab h 11 rfl, zab h 12 rfl, zab h 13 rfl⟩
theorem zn8 {w : World} {p : Nat} {s : LdS} (h : LdAt w p s) : w.frozen? ⟨p, 1, none⟩ = false /\ w.frozen? ⟨p, 2, none⟩ = false /\ w.frozen? ⟨p, 3, none⟩ = false /\ w.frozen? ⟨p, 4, none⟩ = false /\ w.frozen? ⟨p, 5, none⟩ = false /\ w.frozen? ⟨p, 6, none⟩ = false :=
 ⟨h.frozen 1, h.frozen 2, h.frozen 3, h.frozen 4, h.frozen 5, h.frozen 6⟩
theorem LdAt.form {w : World} {_p : Nat} {s : LdS} {kM kW : Nat} (h : zff w s kM kW) : ∃ AM cM AW cW, s.may = .slice AM kM cM /\ s.were = .slice AW kW cW := by
 obtain ⟨AM, cM, h1, _⟩ := h.may.form
 obtain ⟨AW, cW, h2, _⟩ := h.were.form
 exact ⟨AM, cM, AW, cW, h1, h2⟩
theorem zdn {w : World} {K b g base n : Nat} {cv : Value} {m : Nums} {bytes : List UInt8} {cache : List (Nat × List UInt8)} (h : Dk w K b g base n cv m bytes cache) {p : Nat} {T : TypeId} {cs : Array Value} (hp : Blk w p T cs) (h1 : T ≠ 103) (h2 : T ≠ 111) (h3 : T ≠ 113) : ¬ dfp b g cv p := by
 rintro (rfl | rfl | e)
 . exact Blk.ne_ hp h.at_ h1 rfl
 . exact Blk.ne_ hp h.blk h2 rfl
 . exact zae h.own hp h3.symm e.symm
set_option maxHeartbeats 2000000 in
theorem zk3 (K p g base kM kW : Nat) (s : LdS) (m : Nums) (bytes : List UInt8) (w : World) (hl : LdAt w p s) (ho : zff w s kM kW) (hd : Dk w K s.db g base s.n (.slice none 0 0) m bytes []) (hc : m.calm) (hf : zbp s.n = true) (hK : K + 5 < zc8) (hkW2 : kW < 90000) :
   Calls Tryz.prog 148 #[.pointer (some ⟨p, 0, none⟩)] w fun e w' => ∃ may' were', e = .returned (.bool true) /\ LdAt w' p { s.closed with may := may', were := were' } /\ zff w' { s.closed with may := may', were := were' } 1 (kW + 1) /\
    Dk w' (K + 5) s.db g base s.n (.slice none 0 0) (zbo m 2).tick.wrote.tick (zeb bytes [] (zau (zay (zal bytes [])))) [] /\ Only (fun y => y = p \/ y = s.db \/ y = g) w w' := by
 obtain ⟨AM, cM, AW, cW, eM, eW⟩ := LdAt.form (_p := p) ho
 obtain ⟨db, n, may, emp, were, wild, bit, x, c, commits, poi, ts, lists, want⟩ := s
 obtain ⟨hmay, hwere, e1, e2, e3, hkM, hkW⟩ := ho
 simp only at eM eW hmay hwere e1 e2 e3 hd hf
 subst eM eW e1 e2 e3
 have hpd : ¬ dfp db g (.slice none 0 0) p := zdn hd hl (by decide) (by decide) (by decide)
 have HPD := zaa hpd
 have HC := zaa (zen p _ w hl)
 have HL0 := zaa hl
 have HD := zaa hd
 have HM := zaa hmay
 have HW := zaa hwere
 have HCA := zaa hc
 have HF := zaa hf
 clear hl hd hmay hwere hc hpd hf
 go_enter Tryz.func148, Tryz.ntmps148
 go_wp2_with (first
  | (go_at_call 177; go_loud (
     refine HC.out.mono ?_; rintro e w1 ⟨rfl, hl1, ho1⟩
     have hd1 := HD.out.only ho1 (fun y hy e => HPD.out (e ▸ hy))
     have hl1 : LdAt w1 p ⟨db, n, .slice AM kM cM, false, .slice AW kW cW, false, false, .pointer none, c, commits, false, .slice none 0 0, lists, want⟩ := hl1
     obtain ⟨k0, _⟩ := zar hl1
     have HT := zaa (zbc db _ _ m w1 hd1.at_)
     have HP := zaa (znc K db g base n (.slice none 0 0) m bytes [] w1 hd1 HCA.out hK HF.out)
     have HL1 := zaa hl1
     have HO1 := zaa ho1
     have HM1 := zaa (HM.out.only ho1 (fun y cs hy e => by subst e; exact Blk.ne_ hy HL0.out (by decide) rfl))
     have HW1 := zaa (HW.out.only ho1 (fun y cs hy e => by subst e; exact Blk.ne_ hy HL0.out (by decide) rfl))
     have HD1 := zaa hd1
     clear hl1 ho1 hd1))
  | (go_at_call 178; refine HT.out.mono ?_; rintro e w' ⟨rfl, rfl⟩)
  | (go_at_call 50; refine HP.out.mono ?_; rintro e w2 ⟨rfl, hd2, ho2⟩
     have hl2 := Blk.only HL1.out ho2 (fun e => HPD.out (by rcases e with e | e; exact .inl e; exact .inr (.inl e)))
     obtain ⟨_, k1, k2, k3, k4, k5, k6⟩ := zar hl2
     have HL2 := zaa hl2
     have HD2 := zaa hd2
     have HO2 := zaa ho2
     have hfp : ∀ y cs, Blk w1 y 241 cs -> ¬ (y = db \/ y = g) := fun y cs hy e => by
      rcases e with e | e
      . subst e; exact Blk.ne_ hy HD1.out.at_ (by decide) rfl
      . subst e; exact Blk.ne_ hy HD1.out.blk (by decide) rfl
     have HM2 := zaa (HM1.out.only ho2 hfp)
     have HW2 := zaa (HW1.out.only ho2 hfp)
     clear hl2 hd2 ho2 k0 hfp)
  | (go_at_call 30; refine (zcq _).mono ?_; rintro e w' ⟨rfl, rfl⟩)
  | (go_at_call 179; refine (za6 _ _).mono ?_; rintro e w' ⟨rfl, rfl⟩)
  | (go_at_call 180; refine (zem _ _ _ _ _ _ _).mono ?_; rintro e w3 ⟨rfl, hb3⟩
     rw [HF.out]
     obtain ⟨_, k1', k2', k3', k4', k5', k6'⟩ := zar (Blk.below HL2.out hb3 HL2.out.lt)
     have HO := zaa (zln n kM kW _ _ false false false w3 (HM2.out.below hb3) (HW2.out.below hb3) (by omega) (by omega))
     have HB3 := zaa hb3
     clear hb3 k1 k2 k3 k4 k5 k6)
  | (go_at_call 181; refine HO.out.mono ?_; rintro e w4 ⟨may', were', rfl, hM4, hW4, hb4⟩
     have hl4 : Blk w4 p 245 #[.pointer (some ⟨db, 0, none⟩), .int .i64 n, .slice AM kM cM, .bool false, .slice AW kW cW, .bool false, .bool false, .pointer none, c, .int .i64 commits, .bool false, .slice none 0 0, lists, want] := Blk.below (Blk.below HL2.out HB3.out HL2.out.lt) hb4 (Nat.lt_of_lt_of_le HL2.out.lt HB3.out.size)
     obtain ⟨A4, c4, rfl, _⟩ := hM4.form
     obtain ⟨A5, c5, rfl, _⟩ := hW4.form
     obtain ⟨_, q1, q2, q3, q4, q5, q6⟩ := zar (show LdAt w4 p ⟨db, n, .slice AM kM cM, false, .slice AW kW cW, false, false, .pointer none, c, commits, false, .slice none 0 0, lists, want⟩ from hl4)
     obtain ⟨z1, z2, z3, z4, z5, z6⟩ := zn8 (show LdAt w4 p ⟨db, n, .slice AM kM cM, false, .slice AW kW cW, false, false, .pointer none, c, commits, false, .slice none 0 0, lists, want⟩ from hl4)
     have HL4 := zaa hl4
     have HM4 := zaa hM4
     have HW4 := zaa hW4
     have HB4 := zaa hb4
     clear hl4 hM4 hW4 hb4 k1' k2' k3' k4' k5' k6'))
 obtain ⟨W7, hW7⟩ : ∃ W7, W7 = (((((((w4.setCell ⟨p, 1, none⟩ (.int .i64 n)).setCell ⟨p, 2, none⟩ (.slice A4 1 c4)).setCell ⟨p, 3, none⟩ (.bool false)).setCell ⟨p, 4, none⟩ (.slice A5 (kW + 1) c5)).setCell ⟨p, 5, none⟩ (.bool false)).setCell ⟨p, 6, none⟩ (.bool false)).setCell ⟨p, 5, none⟩ (.bool false)).setCell ⟨p, 6, none⟩ (.bool false) := ⟨_, rfl⟩
 rw [<- hW7]
 have ho7 : Only (· = p) w4 W7 := by rw [hW7]; exact (((((((Only.set1 _ _ _ _).set2 _ _).set2 _ _).set2 _ _).set2 _ _).set2 _ _).set2 _ _).set2 _ _
 have hl7 : LdAt W7 p ⟨db, n, .slice A4 1 c4, false, .slice A5 (kW + 1) c5, false, false, .pointer none, c, commits, false, .slice none 0 0, lists, want⟩ := by
  rw [hW7]
  have := (((((((HL4.out.set_ 1 (.int .i64 n)).set_ 2 (.slice A4 1 c4)).set_ 3 (.bool false)).set_ 4 (.slice A5 (kW + 1) c5)).set_ 5 (.bool false)).set_ 6 (.bool false)).set_ 5 (.bool false)).set_ 6 (.bool false)
  simp only [List.setIfInBounds_toArray, List.set_cons_zero, List.set_cons_succ] at this
  exact this
 have hfp : ∀ y cs, Blk w4 y 241 cs -> ¬ y = p := fun y cs hy e => by subst e; exact Blk.ne_ hy HL4.out (by decide) rfl
 have hM7 := HM4.out.only ho7 hfp
 have hW7' := HW4.out.only ho7 hfp
 go_ret
 refine ⟨.slice A4 1 c4, .slice A5 (kW + 1) c5, rfl, hl7, ⟨hM7, hW7', rfl, rfl, rfl, by omega, by omega⟩, ?_, ?_⟩
 . exact ((HD2.out.below HB3.out).below HB4.out).only ho7 (fun y hy e => HPD.out (e ▸ hy))
 . have h1 : Only (fun y => y = p \/ y = db \/ y = g) w w2 := (HO1.out.mono fun _ _ h => .inl h).trans (HO2.out.mono fun _ _ h => .inr h)
   exact ((h1.below HB3.out).below HB4.out).trans (ho7.mono fun _ _ h => .inl h)
set_option maxHeartbeats 2000000 in
theorem zk4 (K p g base kM kW : Nat) (s : LdS) (m : Nums) (bytes : List UInt8) (w : World) (hl : LdAt w p s) (ho : zff w s kM kW) (hd : Dk w K s.db g base s.n (.slice none 0 0) m bytes []) (hf : zbp s.n = false) (hg : Glob w) (hp0 : p ≠ 0) :
   Calls Tryz.prog 148 #[.pointer (some ⟨p, 0, none⟩)] w fun e w' => e = .returned (.bool true) /\ LdAt w' p s.closed /\ Only (· = p) w w' := by
 obtain ⟨AM, cM, AW, cW, eM, eW⟩ := LdAt.form (_p := p) ho
 obtain ⟨db, n, may, emp, were, wild, bit, x, c, commits, poi, ts, lists, want⟩ := s
 obtain ⟨hmay, hwere, e1, e2, e3, hkM, hkW⟩ := ho
 simp only at eM eW hmay hwere e1 e2 e3 hd hf
 subst eM eW e1 e2 e3
 have hpd : ¬ dfp db g (.slice none 0 0) p := zdn hd hl (by decide) (by decide) (by decide)
 have HPD := zaa hpd
 have HC := zaa (zen p _ w hl)
 have HD := zaa hd
 have HF := zaa hf
 have HG := zaa hg
 clear hl hd hmay hwere hpd hf hg
 go_enter Tryz.func148, Tryz.ntmps148
 go_wp2_with (first
  | (go_at_call 177; go_loud (
     refine HC.out.mono ?_; rintro e w1 ⟨rfl, hl1, ho1⟩
     have hd1 := HD.out.only ho1 (fun y hy e => HPD.out (e ▸ hy))
     have hl1 : LdAt w1 p ⟨db, n, .slice AM kM cM, false, .slice AW kW cW, false, false, .pointer none, c, commits, false, .slice none 0 0, lists, want⟩ := hl1
     obtain ⟨k0, _⟩ := zar hl1
     have HT := zaa (zbc db _ _ m w1 hd1.at_)
     have HP := zaa (znb K db g base n (.slice none 0 0) m bytes [] w1 hd1 HF.out)
     have HL1 := zaa hl1
     have HO1 := zaa ho1
     have HG1 := zaa (HG.out.only ho1 (fun e => hp0 e.symm))
     clear hl1 ho1 hd1))
  | (go_at_call 178; refine HT.out.mono ?_; rintro e w' ⟨rfl, rfl⟩)
  | (go_at_call 50; go_loud (
     refine HP.out.mono ?_; rintro e w2 ⟨rfl, hw2⟩
     have hb2 : Below w1.heap.size w1 w2 := by rw [hw2]; exact (Below.refl _ _).alloc (Nat.le_refl _) _
     have hfa : zao w2 w1.heap.size zjx 10 := by rw [hw2]; exact Blk.new _ _ _
     have HTF := zaa (zbl w1.heap.size 10 zjx w2 hfa (HG1.out.below hb2))
     unfold zag at HTF
     have HB2 := zaa hb2
     clear hb2 hfa hw2 k0
     unfold zag))
  | (go_at_call 30; refine HTF.out.mono ?_; rintro e w3 ⟨rfl, hb3⟩
     have HL3 := zaa (Blk.below (Blk.below HL1.out HB2.out HL1.out.lt) hb3 (Nat.lt_of_lt_of_le HL1.out.lt HB2.out.size))
     obtain ⟨_, k1, k2, k3, k4, k5, k6⟩ := zar (show LdAt w3 p ⟨db, n, .slice AM kM cM, false, .slice AW kW cW, false, false, .pointer none, c, commits, false, .slice none 0 0, lists, want⟩ from HL3.out)
     have HB3 := zaa hb3
     clear hb3)
  | (go_at_call 179; refine (za6 _ _).mono ?_; rintro e w' ⟨rfl, rfl⟩)
  | (go_at_call 180; refine (zem _ _ _ _ _ _ _).mono ?_; rintro e w4 ⟨rfl, hb4⟩
     rw [HF.out]
     have HB4 := zaa hb4
     clear hb4 k1 k2 k3 k4 k5 k6))
 go_ret
 have hl4 := Blk.below HL3.out HB4.out HL3.out.lt
 exact ⟨rfl, hl4, ((HO1.out.below HB2.out).below HB3.out).below HB4.out⟩
set_option maxHeartbeats 2000000 in
theorem zo1 (K p g base kM kW : Nat) (s : LdS) (m : Nums) (bytes : List UInt8) (w : World) (hl : LdAt w p s) (ho : zff w s kM kW) (hd : Dk w K s.db g base s.n (.slice none 0 0) m bytes []) (hf : zbp s.n = false) (hg : Glob w) (hp0 : p ≠ 0) :
   Calls Tryz.prog 149 #[.pointer (some ⟨p, 0, none⟩)] w fun e w' => e = .returned (.bool true) /\ LdAt w' p s.closed /\ Only (· = p) w w' := by
 obtain ⟨AM, cM, AW, cW, eM, eW⟩ := LdAt.form (_p := p) ho
 obtain ⟨db, n, may, emp, were, wild, bit, x, c, commits, poi, ts, lists, want⟩ := s
 obtain ⟨hmay, hwere, e1, e2, e3, hkM, hkW⟩ := ho
 simp only at eM eW hmay hwere e1 e2 e3 hd hf
 subst eM eW e1 e2 e3
 have hpd : ¬ dfp db g (.slice none 0 0) p := zdn hd hl (by decide) (by decide) (by decide)
 have HPD := zaa hpd
 have HC := zaa (zen p _ w hl)
 have HD := zaa hd
 have HF := zaa hf
 have HG := zaa hg
 clear hl hd hmay hwere hpd hf hg
 go_enter Tryz.func149, Tryz.ntmps149
 go_wp2_with (first
  | (go_at_call 177; go_loud (
     refine HC.out.mono ?_; rintro e w1 ⟨rfl, hl1, ho1⟩
     have hd1 := HD.out.only ho1 (fun y hy e => HPD.out (e ▸ hy))
     have hl1 : LdAt w1 p ⟨db, n, .slice AM kM cM, false, .slice AW kW cW, false, false, .pointer none, c, commits, false, .slice none 0 0, lists, want⟩ := hl1
     obtain ⟨k0, _⟩ := zar hl1
     have HT := zaa (zbc db _ _ m w1 hd1.at_)
     have HP := zaa (zqk K db g base n (.slice none 0 0) m bytes [] w1 hd1 HF.out)
     have HL1 := zaa hl1
     have HO1 := zaa ho1
     have HG1 := zaa (HG.out.only ho1 (fun e => hp0 e.symm))
     clear hl1 ho1 hd1))
  | (go_at_call 178; refine HT.out.mono ?_; rintro e w' ⟨rfl, rfl⟩)
  | (go_at_call 38; go_loud (
     refine HP.out.mono ?_; rintro e w2 ⟨rfl, hw2⟩
     have hb2 : Below w1.heap.size w1 w2 := by rw [hw2]; exact (Below.refl _ _).alloc (Nat.le_refl _) _
     have hfa : zao w2 w1.heap.size zdh 10 := by rw [hw2]; exact Blk.new _ _ _
     have HTF := zaa (zbl w1.heap.size 10 zdh w2 hfa (HG1.out.below hb2))
     unfold zag at HTF
     have HB2 := zaa hb2
     clear hb2 hfa hw2 k0
     unfold zag))
  | (go_at_call 30; refine HTF.out.mono ?_; rintro e w3 ⟨rfl, hb3⟩
     have HL3 := zaa (Blk.below (Blk.below HL1.out HB2.out HL1.out.lt) hb3 (Nat.lt_of_lt_of_le HL1.out.lt HB2.out.size))
     obtain ⟨_, k1, k2, k3, k4, k5, k6⟩ := zar (show LdAt w3 p ⟨db, n, .slice AM kM cM, false, .slice AW kW cW, false, false, .pointer none, c, commits, false, .slice none 0 0, lists, want⟩ from HL3.out)
     have HB3 := zaa hb3
     clear hb3)
  | (go_at_call 179; refine (za6 _ _).mono ?_; rintro e w' ⟨rfl, rfl⟩)
  | (go_at_call 180; refine (zem _ _ _ _ _ _ _).mono ?_; rintro e w4 ⟨rfl, hb4⟩
     rw [HF.out]
     have HB4 := zaa hb4
     clear hb4 k1 k2 k3 k4 k5 k6))
 go_ret
 have hl4 := Blk.below HL3.out HB4.out HL3.out.lt
 exact ⟨rfl, hl4, ((HO1.out.below HB2.out).below HB3.out).below HB4.out⟩
def ztn : ByteArray := ⟨#[255, 255, 255, 255, 255, 255, 255, 255, 255]⟩
set_option maxHeartbeats 4000000 in
theorem zqm (K p g base kW xb dk rd : Nat) (s : LdS) (m : Nums) (bytes : List UInt8) (w : World) (hl : LdAt w p s) (ho : zff w s 1 kW) (hd : Dk w K s.db g base s.n (.slice none 0 0) m bytes [])
   (hx : DbAt w xb (DbS.fresh dk rd)) (hr : RdAt w rd []) (hkW2 : kW < 90000) :
   Calls Tryz.prog 183 #[.pointer (some ⟨p, 0, none⟩), .pointer (some ⟨xb, 0, none⟩)] w fun e w' => ∃ may' were', e = .returned (.bool true) /\ LdAt w' p { s with may := may', were := were', x := .pointer (some ⟨xb, 0, none⟩), c := .slice none 0 0, commits := 0 } /\
    zff w' { s with may := may', were := were', x := .pointer (some ⟨xb, 0, none⟩), c := .slice none 0 0, commits := 0 } 1 (kW + 1) /\ DbAt w' xb (DbS.fresh dk rd) /\ RdAt w' rd [] /\ Only (fun y => y = p \/ y = xb \/ y = rd) w w' := by
 obtain ⟨AM, cM, AW, cW, eM, eW⟩ := LdAt.form (_p := p) ho
 obtain ⟨db, n, may, emp, were, wild, bit, x, c, commits, poi, ts, lists, want⟩ := s
 obtain ⟨hmay, hwere, e1, e2, e3, hkM, hkW⟩ := ho
 simp only at eM eW hmay hwere e1 e2 e3 hd
 subst eM eW e1 e2 e3
 have hpx : p ≠ xb := Blk.ne_ hl hx (by decide)
 have hprd : rd ≠ p := hr.ne_blk hl
 have hbx : db ≠ xb := Blk.ne_ hd.at_ hx (by decide)
 have hbrd : rd ≠ db := hr.ne_blk hd.at_
 have hxrd : rd ≠ xb := hr.ne_blk hx
 have hl' : LdAt w p ⟨db, n, .slice AM 1 cM, false, .slice AW kW cW, false, false, x, c, commits, poi, ts, lists, want⟩ := hl
 obtain ⟨k0, _⟩ := zar hl'
 have HT := zaa (zbc db _ _ m w hd.at_)
 have HBG := zaa (zkb xb (DbS.fresh dk rd) [] w hx rfl hr (fun k hk => by cases hk) (by decide))
 have HL := zaa hl'
 have HD := zaa hd.at_
 have HM := zaa hmay
 have HW := zaa hwere
 have HPL := zaa hl.lt
 have HRL := zaa hr.lt
 have HXL := zaa hx.lt
 have HF0 := zaa (show ∀ y cs, Blk w y 241 cs -> ¬ (y = xb \/ y = rd) from fun y cs hy e => by
  rcases e with e | e
  . subst e; exact Blk.ne_ hy hx (by decide) rfl
  . subst e; exact hr.ne_blk hy rfl)
 clear hl hl' hd hx hr hmay hwere
 go_enter Tryz.func183, Tryz.ntmps183
 go_upto_region 20 with (first
  | (go_at_call 178; refine HT.out.mono ?_; rintro e w' ⟨rfl, rfl⟩)
  | (go_at_call 22; go_loud (
     refine HBG.out.mono ?_; rintro e w1 ⟨t, rfl, hT1, hX1, hR1, hzt, ho1⟩
     have hl1 := HL.out.only ho1 (fun e => by rcases e with e | e; exact hpx e; exact hprd e.symm)
     have HS := zaa (zsd t xb _ _ ⟨#[]⟩ ztn 1048576 (by decide) w1 hT1 hX1 rfl rfl rfl)
     have HT1 := zaa hT1
     have HX1 := zaa hX1
     have HR1 := zaa hR1
     have HO1 := zaa ho1
     have HM1 := zaa (HM.out.only ho1 HF0.out)
     have HW1 := zaa (HW.out.only ho1 HF0.out)
     have HL1 := zaa hl1
     unfold ztn at HS
     clear hT1 hX1 hR1 ho1 hl1 k0))
  | (go_at_call 30; refine (zcq _).mono ?_; rintro e w' ⟨rfl, rfl⟩)
  | (go_at_call 179; refine (za6 _ _).mono ?_; rintro e w' ⟨rfl, rfl⟩)
  | (go_at_call 64; go_loud (
     refine HS.out.mono ?_; rintro e w2 ⟨rfl, hb2⟩
     have HB2 := zaa hb2
     have hT2 := Blk.below HT1.out hb2 HT1.out.lt
     have hX2 := Blk.below HX1.out hb2 HX1.out.lt
     have hR2 := HR1.out.only (fp := fun _ => False) (Only.of_below hb2) id
     have HA := zaa (zkc t xb _ _ _ w2 hT2 hX2 rfl hR2 (fun k hk => by rw [List.nil_append] at hk; rw [List.mem_singleton.1 hk]; exact ⟨_, hT2⟩) rfl)
     have HF2 := zaa (show ∀ y cs, Blk w2 y 241 cs -> ¬ (y = t \/ y = xb \/ y = rd) from fun y cs hy e => by
      rcases e with e | e | e
      . subst e; exact Blk.ne_ hy hT2 (by decide) rfl
      . subst e; exact Blk.ne_ hy hX2 (by decide) rfl
      . subst e; exact hR2.ne_blk hy rfl)
     have HM2 := zaa (HM1.out.below hb2)
     have HW2 := zaa (HW1.out.below hb2)
     clear hb2 hT2 hX2 hR2))
  | (go_at_call 27; go_loud (
     refine HA.out.mono ?_; rintro e w3 ⟨rfl, hT3, hX3, hR3, ho3⟩
     have hl3 := Blk.only (Blk.below HL1.out HB2.out HL1.out.lt) ho3 (fun e => by have := HPL.out; rcases e with e | e | e; omega; exact hpx e; exact hprd e.symm)
     obtain ⟨_, k1, k2, k3, k4, k5, k6⟩ := zar (show LdAt w3 p ⟨db, n, .slice AM 1 cM, false, .slice AW kW cW, false, false, x, c, commits, poi, ts, lists, want⟩ from hl3)
     have HM3 := zaa (HM2.out.only ho3 HF2.out)
     have HW3 := zaa (HW2.out.only ho3 HF2.out)
     have HX3 := zaa hX3
     have HR3 := zaa hR3
     have HO3 := zaa ho3
     have HL3 := zaa hl3
     have HH := zaa (zt9 n _ (.slice AW kW cW) false false false w3 HM3.out)
     clear hT3 hX3 hR3 ho3 hl3))
  | (go_at_call 200; refine (zql _).mono ?_; rintro e w' ⟨rfl, rfl⟩)
  | (go_at_call 201; go_loud (
     refine HH.out.mono ?_; rintro e w4 ⟨rfl, hb4⟩
     have hl4 := Blk.below HL3.out hb4 HL3.out.lt
     obtain ⟨_, q1, q2, q3, q4, q5, q6⟩ := zar (show LdAt w4 p ⟨db, n, .slice AM 1 cM, false, .slice AW kW cW, false, false, x, c, commits, poi, ts, lists, want⟩ from hl4)
     obtain ⟨_, q8, q9, _⟩ := zbi (show LdAt w4 p ⟨db, n, .slice AM 1 cM, false, .slice AW kW cW, false, false, x, c, commits, poi, ts, lists, want⟩ from hl4)
     have z8 : w4.frozen? ⟨p, 8, none⟩ = false := hl4.frozen 8
     have HL4 := zaa hl4
     have HB4 := zaa hb4
     clear hb4 hl4 k1 k2 k3 k4 k5 k6)))
 obtain ⟨w8, hw8⟩ : ∃ w8, w8 = w4.setCell ⟨p, 8, none⟩ (.slice none 0 0) := ⟨_, rfl⟩
 rw [<- hw8]
 have ho8 : Only (· = p) w4 w8 := by rw [hw8]; exact Only.set1 _ _ _ _
 have hl8 : Blk w8 p 245 #[.pointer (some ⟨db, 0, none⟩), .int .i64 n, .slice AM 1 cM, .bool false, .slice AW kW cW, .bool false, .bool false, x, .slice none 0 0, .int .i64 commits, .bool poi, ts, lists, want] := by
  rw [hw8]
  have : Blk w4 p 245 #[.pointer (some ⟨db, 0, none⟩), .int .i64 n, .slice AM 1 cM, .bool false, .slice AW kW cW, .bool false, .bool false, x, c, .int .i64 commits, .bool poi, ts, lists, want] := HL4.out
  have := this.set_ 8 (.slice none 0 0)
  simp only [List.setIfInBounds_toArray, List.set_cons_zero, List.set_cons_succ] at this
  exact this
 have hfp8 : ∀ y cs, Blk w4 y 241 cs -> ¬ y = p := fun y cs hy e => by subst e; exact Blk.ne_ hy HL4.out (by decide) rfl
 have HO8 := zaa (zln n 1 kW _ _ false false false w8.drew ((HM3.out.below HB4.out).only ho8.drew hfp8) ((HW3.out.below HB4.out).only ho8.drew hfp8) (by omega) (by omega))
 have HL8 := zaa hl8
 have HO48 := zaa ho8
 obtain ⟨_, r1, r2, r3, r4, r5, r6⟩ := zar (show LdAt w8 p ⟨db, n, .slice AM 1 cM, false, .slice AW kW cW, false, false, x, .slice none 0 0, commits, poi, ts, lists, want⟩ from hl8)
 obtain ⟨_, r8, _⟩ := zbi (show LdAt w8 p ⟨db, n, .slice AM 1 cM, false, .slice AW kW cW, false, false, x, .slice none 0 0, commits, poi, ts, lists, want⟩ from hl8)
 clear hl8 ho8 hfp8 hw8 q1 q2 q3 q4 q5 q6 q8 q9 z8
 refine wp_region_held_drew (S := fun _ => True) (by kernel_rfl) trivial ?_
 intro _
 refine zai (i := 0) (v := (.pointer (some ⟨p, 0, none⟩))) (some 94) rfl rfl (by kernel_rfl) (by kernel_rfl) (by kernel_rfl) (fun _ _ _ h => h) (Or.inl ⟨rfl, fun w' hSw => by go_simp⟩) trivial ?_
 simp only [Act.put, List.setIfInBounds_toArray, List.set_cons_zero, List.set_cons_succ]
 refine zai (i := 1) (v := (.pointer (some ⟨p, 0, none⟩))) (some 95) rfl rfl (by kernel_rfl) (by kernel_rfl) (by kernel_rfl) (fun _ _ _ h => h) (Or.inl ⟨rfl, fun w' hSw => by go_simp⟩) trivial ?_
 simp only [Act.put, List.setIfInBounds_toArray, List.set_cons_zero, List.set_cons_succ]
 refine zai (i := 2) (v := (.pointer (some ⟨p, 0, none⟩))) (some 96) rfl rfl (by kernel_rfl) (by kernel_rfl) (by kernel_rfl) (fun _ _ _ h => h) (Or.inl ⟨rfl, fun w' hSw => by go_simp⟩) trivial ?_
 simp only [Act.put, List.setIfInBounds_toArray, List.set_cons_zero, List.set_cons_succ]
 refine zai (i := 3) (v := (.pointer (some ⟨p, 1, none⟩))) (some 97) rfl rfl (by kernel_rfl) (by kernel_rfl) (by kernel_rfl) (fun _ _ _ h => h) (Or.inl ⟨rfl, fun w' hSw => by go_simp⟩) trivial ?_
 simp only [Act.put, List.setIfInBounds_toArray, List.set_cons_zero, List.set_cons_succ]
 refine zai (i := 5) (v := (.pointer (some ⟨p, 0, none⟩))) (some 99) rfl rfl (by kernel_rfl) (by kernel_rfl) (by kernel_rfl) (fun _ _ _ h => h) (Or.inl ⟨rfl, fun w' hSw => by go_simp⟩) trivial ?_
 simp only [Act.put, List.setIfInBounds_toArray, List.set_cons_zero, List.set_cons_succ]
 refine zai (i := 6) (v := (.pointer (some ⟨p, 0, none⟩))) (some 100) rfl rfl (by kernel_rfl) (by kernel_rfl) (by kernel_rfl) (fun _ _ _ h => h) (Or.inl ⟨rfl, fun w' hSw => by go_simp⟩) trivial ?_
 simp only [Act.put, List.setIfInBounds_toArray, List.set_cons_zero, List.set_cons_succ]
 refine zai (i := 7) (v := (.pointer (some ⟨p, 8, none⟩))) (some 101) rfl rfl (by kernel_rfl) (by kernel_rfl) (by kernel_rfl) (fun _ _ _ h => h) (Or.inl ⟨rfl, fun w' hSw => by go_simp⟩) trivial ?_
 simp only [Act.put, List.setIfInBounds_toArray, List.set_cons_zero, List.set_cons_succ]
 refine zew (i := 4) (j := 8) (vi := (.agg #[.int .i64 n, .slice AM 1 cM, .bool false, .slice AW kW cW, .bool false, .bool false])) (vj := (.agg #[.slice none 0 0])) (w' := w8.drew) (some 98) (some 102) (by kernel_rfl) (by kernel_rfl) (by kernel_rfl) (by kernel_rfl) rfl rfl rfl rfl rfl rfl rfl rfl (by go_simp) (by go_simp) (by go_simp) (by go_simp) trivial trivial rfl ?_
 simp only [Act.put, List.setIfInBounds_toArray, List.set_cons_zero, List.set_cons_succ]
 refine zda (i := 9) (f := 181) (some 103) (by kernel_rfl) rfl rfl rfl (by first | (go_simp; done) | (go_simp; rfl)) (HO8.out) ?_
 rintro _ w9 ⟨may', were', rfl, hM9, hW9, hb9⟩
 refine ⟨(.agg #[.int .i64 n, may', .bool false, were', .bool false, .bool false]), rfl, trivial, ?_⟩
 simp only [Act.put, List.setIfInBounds_toArray, List.set_cons_zero, List.set_cons_succ]
 refine zai (i := 10) (v := (.pointer (some ⟨p, 0, none⟩))) (some 104) rfl rfl (by kernel_rfl) (by kernel_rfl) (by kernel_rfl) (fun _ _ _ h => h) (Or.inl ⟨rfl, fun w' hSw => by go_simp⟩) trivial ?_
 simp only [Act.put, List.setIfInBounds_toArray, List.set_cons_zero, List.set_cons_succ]
 refine zai (i := 11) (v := (.pointer (some ⟨p, 1, none⟩))) (some 105) rfl rfl (by kernel_rfl) (by kernel_rfl) (by kernel_rfl) (fun _ _ _ h => h) (Or.inl ⟨rfl, fun w' hSw => by go_simp⟩) trivial ?_
 simp only [Act.put, List.setIfInBounds_toArray, List.set_cons_zero, List.set_cons_succ]
 refine zaw (i := 12) (by kernel_rfl) rfl rfl ?_
 have hl9 : Blk w9 p 245 #[.pointer (some ⟨db, 0, none⟩), .int .i64 n, .slice AM 1 cM, .bool false, .slice AW kW cW, .bool false, .bool false, x, .slice none 0 0, .int .i64 commits, .bool poi, ts, lists, want] := HL8.out.drew.below hb9 HL8.out.lt
 obtain ⟨A4, c4, rfl, _⟩ := hM9.form
 obtain ⟨A5, c5, rfl, _⟩ := hW9.form
 obtain ⟨_, u1, u2, u3, u4, u5, u6⟩ := zar (show LdAt w9 p ⟨db, n, .slice AM 1 cM, false, .slice AW kW cW, false, false, x, .slice none 0 0, commits, poi, ts, lists, want⟩ from hl9)
 obtain ⟨z1, z2, z3, z4, z5, z6⟩ := zn8 (show LdAt w9 p ⟨db, n, .slice AM 1 cM, false, .slice AW kW cW, false, false, x, .slice none 0 0, commits, poi, ts, lists, want⟩ from hl9)
 go_simp
 refine wpAnyH_done (by kernel_rfl) ?_ _
 obtain ⟨W10, hW10⟩ : ∃ W10, W10 = (((((w9.setCell ⟨p, 1, none⟩ (.int .i64 n)).setCell ⟨p, 2, none⟩ (.slice A4 1 c4)).setCell ⟨p, 3, none⟩ (.bool false)).setCell ⟨p, 4, none⟩ (.slice A5 (kW + 1) c5)).setCell ⟨p, 5, none⟩ (.bool false)).setCell ⟨p, 6, none⟩ (.bool false) := ⟨_, rfl⟩
 rw [<- hW10]
 have ho10 : Only (· = p) w9 W10 := by rw [hW10]; exact (((((Only.set1 _ _ _ _).set2 _ _).set2 _ _).set2 _ _).set2 _ _).set2 _ _
 have hl10 : Blk W10 p 245 #[.pointer (some ⟨db, 0, none⟩), .int .i64 n, .slice A4 1 c4, .bool false, .slice A5 (kW + 1) c5, .bool false, .bool false, x, .slice none 0 0, .int .i64 commits, .bool poi, ts, lists, want] := by
  rw [hW10]
  have := (((((hl9.set_ 1 (.int .i64 n)).set_ 2 (.slice A4 1 c4)).set_ 3 (.bool false)).set_ 4 (.slice A5 (kW + 1) c5)).set_ 5 (.bool false)).set_ 6 (.bool false)
  simp only [List.setIfInBounds_toArray, List.set_cons_zero, List.set_cons_succ] at this
  exact this
 have HL9 := zaa hl9
 have HL10 := zaa hl10
 have HO10 := zaa ho10
 have HM9 := zaa hM9
 have HW9 := zaa hW9
 have HB9 := zaa hb9
 have g7 : W10.cell? ⟨p, 7, none⟩ = some x := zab hl10 7 rfl
 have g9 : W10.cell? ⟨p, 9, none⟩ = some (.int .i64 commits) := zab hl10 9 rfl
 have y7 : W10.frozen? ⟨p, 7, none⟩ = false := hl10.frozen 7
 have y9 : W10.frozen? ⟨p, 9, none⟩ = false := hl10.frozen 9
 clear hl9 hl10 ho10 hW10 hM9 hW9 hb9 u1 u2 u3 u4 u5 u6 z1 z2 z3 z4 z5 z6 r1 r2 r3 r4 r5 r6 r8
 go_wp2
 obtain ⟨W11, hW11⟩ : ∃ W11, W11 = (W10.setCell ⟨p, 7, none⟩ (.pointer (some ⟨xb, 0, none⟩))).setCell ⟨p, 9, none⟩ (.int .i64 0) := ⟨_, rfl⟩
 rw [<- hW11]
 have ho11 : Only (· = p) w9 W11 := by rw [hW11]; exact (HO10.out.set2 _ _).set2 _ _
 have hl11 : LdAt W11 p ⟨db, n, .slice A4 1 c4, false, .slice A5 (kW + 1) c5, false, false, .pointer (some ⟨xb, 0, none⟩), .slice none 0 0, 0, poi, ts, lists, want⟩ := by
  rw [hW11]
  have := (HL10.out.set_ 7 (.pointer (some ⟨xb, 0, none⟩))).set_ 9 (.int .i64 0)
  simp only [List.setIfInBounds_toArray, List.set_cons_zero, List.set_cons_succ] at this
  exact this
 have hfp : ∀ y cs, Blk w9 y 241 cs -> ¬ y = p := fun y cs hy e => by subst e; exact Blk.ne_ hy HL9.out (by decide) rfl
 have hxl := HXL.out
 have hrl := HRL.out
 have hpl := HPL.out
 have hX9 : DbAt w9 xb (DbS.fresh dk rd) := ((((Blk.below HX3.out HB4.out HX3.out.lt)).only HO48.out (fun e => hpx e.symm)).drew).below HB9.out (by have := (Blk.below HX3.out HB4.out HX3.out.lt).only HO48.out (fun e => hpx e.symm); exact this.lt)
 have hR9 : RdAt w9 rd [] := by
  have h3 : RdAt w3 rd [] := by
   have := HR3.out
   rw [List.nil_append, List.erase_cons_head] at this
   exact this
  exact ((h3.only (fp := fun _ => False) (Only.of_below HB4.out) id).only HO48.out hprd).only (fp := fun _ => False) ((Only.refl _ _).drew.below HB9.out) id
 go_ret
 refine ⟨.slice A4 1 c4, .slice A5 (kW + 1) c5, rfl, hl11, ⟨HM9.out.only ho11 hfp, HW9.out.only ho11 hfp, rfl, rfl, rfl, by omega, by omega⟩, Blk.only hX9 ho11 (fun e => hpx e.symm), hR9.only ho11 hprd, ?_⟩
 have h1 : Only (fun y => y = p \/ y = xb \/ y = rd) w w2 := (HO1.out.mono fun _ _ h => .inr h).below HB2.out
 have h3 : Only (fun y => y = p \/ y = xb \/ y = rd) w w3 := h1.trans' HO3.out (fun y hy e => by rcases e with e | e | e; omega; exact .inr (.inl e); exact .inr (.inr e))
 have h8 : Only (fun y => y = p \/ y = xb \/ y = rd) w w8 := (h3.below HB4.out).trans (HO48.out.mono fun _ _ h => .inl h)
 exact ((h8.drew.below HB9.out)).trans (ho11.mono fun _ _ h => .inl h)
end Go.Proofs.YtemondlgcmpbbaaGreatDoor
