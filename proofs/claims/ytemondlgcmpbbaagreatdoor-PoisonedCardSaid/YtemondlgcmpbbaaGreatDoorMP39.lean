/- Fe Oi: merged. -/
import Derived.Test.YtemondlgcmpbbaaGreatDoorMP06
import Derived.Test.YtemondlgcmpbbaaGreatDoorMP32
import Derived.Deep.LoopGhost
import Derived.Test.YtemondlgcmpbbaaGreatDoorMP37
import Derived.ChangeSlices
namespace Go.Proofs.YtemondlgcmpbbaaGreatDoor
open Go.RowKit
set_option maxRecDepth 100000
def zdg (l : List Int) : List Value := l.map (Value.int .i64)
theorem zor (l : List Int) : (zdg l).length = l.length := by simp [zdg]
theorem zu0 (a b : List Int) : zdg (a ++ b) = zdg a ++ zdg b := by simp [zdg]
def IntsAt (w : World) (A : Option Addr) (n c : Nat) (zs : List Int) : Prop :=
 zs.length = n /\ n <= c /\ c <= maxLen /\ (∀ z ∈ zs, I64 z) /\ (0 < n -> ∃ g o, A = some ⟨g, o, none⟩ /\ g < w.heap.size /\ ∀ j z, zs[j]? = some z -> w.cell? ⟨g, o + j, none⟩ = some (.int .i64 z))
theorem IntsAt.below {w w' : World} {A : Option Addr} {n c : Nat} {zs : List Int} (h : IntsAt w A n c zs) (hb : Below w.heap.size w w') : IntsAt w' A n c zs := by
 obtain ⟨h1, h2, h3, h4, h5⟩ := h
 refine ⟨h1, h2, h3, h4, fun h0 => ?_⟩
 obtain ⟨g, o, hA, hg, hc⟩ := h5 h0
 exact ⟨g, o, hA, Nat.lt_of_lt_of_le hg hb.size, fun j z hz => by rw [<- hc j z hz]; exact hb.cell hg⟩
theorem zyf : (Tryz.prog.info? 3).map (fun i => (i.zero, i.size, i.bytes)) = some (some (.int .i64 0), 1, 8) := by kernel_rfl
set_option maxHeartbeats 1000000 in
theorem z0a (A : Option Addr) (n c : Nat) (zs : List Int) (w : World) (h : IntsAt w A n c zs) :
   Calls Tryz.prog 35 #[.slice A n c] w fun e w' => ∃ A' m' c', e = .returned (.slice A' m' c') /\ w'.ownsRow w.heap.size 3 1 (.slice A' m' c') m' (zdg (zs.take 64)) /\ Below w.heap.size w w' := by
 obtain ⟨i0, hi0, hz0, hz1, hz2⟩ := info_parts zyf
 have HI0 := zaa hi0
 have HZ0 := zaa hz0
 have HZ1 := zaa hz1
 have HZ2 := zaa hz2
 have hnm : n <= maxLen := Nat.le_trans h.2.1 h.2.2.1
 unfold maxLen at hnm
 have HH := zaa h
 clear h hi0 hz0 hz1 hz2
 go_enter Tryz.func35, Tryz.ntmps35
 go_wp2
 go_loopw [3, 4] (fun v i wr => ∃ k : Nat, k <= n /\ k <= 64 /\ i = .int .i64 k /\ wr.ownsRow w.heap.size 3 1 v k (zdg (zs.take k)) /\ Below w.heap.size w wr) (fun _ i _ => 64 - (intOf i).toNat)
 case atStart => exact ⟨0, Nat.zero_le _, Nat.zero_le _, rfl, by rw [List.take_zero]; exact World.ownsRow_nil _ _ _ _, Below.refl _ _⟩
 case round =>
  obtain ⟨k, hk, hk64, rfl, hown, hbr⟩ := hrel
  obtain ⟨A1, c1, rfl, _⟩ := zan hown
  have hzr := hbr.size
  have hI := HH.out.below hbr
  by_cases hlt : k < n
  . by_cases hl64 : k < 64
    . have k1 : (0 : Int) <= (k : Int) := by omega
      have k2 : (k : Int) < (n : Int) := by omega
      have k3 : (k : Int) < 64 := by omega
      have hkz : k < zs.length := by rw [hI.1]; exact hlt
      obtain ⟨g, o, rfl, hg, hc⟩ := hI.2.2.2.2 (by omega)
      have cz : wr.cell? ⟨g, o + k, none⟩ = some (.int .i64 zs[k]) := hc k _ (List.getElem?_eq_getElem hkz)
      have hwr : IntKind.i64.wrap ((k : Int) + 1) = (k : Int) + 1 := by rw [IntKind.wrap_i64]; omega
      have hnext : zs.take (k + 1) = zs.take k ++ [zs[k]] := by rw [List.take_succ_eq_append_getElem hkz]
      have HN := zaa hnext
      have HOWN := zaa hown
      have HBR := zaa hbr
      clear hown hbr hnext hI hc
      go_wp2_with (first
       | (at_builtin
          refine zbp _ rfl (.tmp 15) (.tmp 20) 51 rfl w.heap.size 3 i0 _ 1 8 Tryz.underlying51 HI0.out HZ0.out HZ1.out HZ2.out rfl (by decide) (.slice A1 k c1) k _ rfl (HOWN.out.alloc _) (wr.heap.size + 1) (some ⟨wr.heap.size, 0, none⟩) 1 1 [.int .i64 zs[k]] rfl ⟨rfl, fun _ => ⟨_, rfl, Nat.lt_succ_self _, fun j u hu => by rw [Addr.add_lit]; exact (Blk.new wr 3 #[.int .i64 zs[k]]).range (cur := [.int .i64 zs[k]]) (o := 0) rfl j u hu⟩⟩ (fun u hu => by rw [List.mem_singleton.1 hu]; rfl) (by unfold maxLen; omega) (by omega) (by simp only [World.size_alloc]; omega) ?_
          intro v2 w2 hown2 hgr2 hat2
          have hb2 : Below w.heap.size w w2 := (HBR.out.alloc hzr _).grown hgr2 (by simp only [World.size_alloc]; omega) (fun g' e => (zdv (HOWN.out) e).1)
          have HOWN2 := zaa hown2
          have HB2 := zaa hb2
          clear hown2 hgr2 hat2 hb2))
      go_roundw
      case rel =>
       refine ⟨k + 1, by omega, by omega, by go_num, ?_, HB2.out⟩
       rw [HN.out, zu0]
       exact HOWN2.out
      case measure => simp [intOf]; omega
    . have k2 : (k : Int) < (n : Int) := by omega
      have k3 : ¬ ((k : Int) < 64) := by omega
      have HOWN := zaa hown
      have HBR := zaa hbr
      clear hown hbr
      go_wp2
      go_ret
      obtain rfl : k = 64 := by omega
      exact ⟨_, _, _, rfl, HOWN.out, HBR.out⟩
  . have k2 : ¬ ((k : Int) < (n : Int)) := by omega
    obtain rfl : k = n := by omega
    have HOWN := zaa hown
    have HBR := zaa hbr
    have HL := zaa hI.1
    clear hown hbr
    go_wp2
    go_ret
    refine ⟨_, _, _, rfl, ?_, HBR.out⟩
    have := HOWN.out
    have e1 : zs.take k = zs := by rw [<- HL.out, List.take_length]
    have e2 : zs.take 64 = zs := List.take_of_length_le (by rw [HL.out]; omega)
    rw [e1] at this
    rw [e2]
    exact this
end Go.Proofs.YtemondlgcmpbbaaGreatDoor
namespace Go.Proofs.YtemondlgcmpbbaaGreatDoor
open Go.ChangeShapes Go.WideShapes Go.RowKit Go.Deep
set_option maxRecDepth 100000
theorem zu1 {w : World} {a : Addr} {v : Value} (h : w.cell? a = some v) : a.block < w.heap.size := by
 rcases Nat.lt_or_ge a.block w.heap.size with h' | h'
 . exact h'
 . simp [World.cell?, Array.getElem?_eq_none h'] at h
theorem zu2 {H : Type} {enc : TypeId × Value -> H} {spare : Nat -> Bool} {held : Bool} {W : World} {fuel : Nat} {A : Option Addr} {n c : Nat} {x : DataW H × List MemPlace} (h : DataW.trod enc Tryz.prog W 0 spare held fuel 51 [.slice A n c] = some x) :
   ∃ zs, IntsAt W A n c zs := by
 rcases open_ints Tryz.underlying51 Tryz.underlying3 (show Tryz.prog.cellsOf 3 = 1 by kernel_rfl) h with ⟨e, -⟩ | ⟨a, len, cap, zs, e, -, hl, hm, hz, -, hc, hw⟩
 . obtain ⟨rfl, rfl, rfl⟩ : A = none /\ n = 0 /\ c = 0 := by simpa using e
   exact ⟨[], rfl, Nat.le_refl _, Nat.zero_le _, (fun z h => by cases h), fun h => absurd h (by omega)⟩
 . obtain ⟨rfl, rfl, rfl⟩ : A = some a /\ n = len /\ c = cap := by simpa using e
   have hlz : n <= zs.length := by rw [hz]; split <;> omega
   refine ⟨zs.take n, by rw [List.length_take]; omega, hl, hm, fun z h => zf7 (hw z (List.mem_of_mem_take h)), fun h0 => ?_⟩
   obtain ⟨b, off, sp⟩ := a
   have hsp : sp = none := World.cell?_spot (hc 0 (by omega))
   subst hsp
   have hcell : ∀ j z, (zs.take n)[j]? = some z -> W.cell? ⟨b, off + j, none⟩ = some (.int .i64 z) := fun j z hj => by
    have hjz : zs[j]? = some z := by
     rw [List.getElem?_take] at hj
     split at hj
     . exact hj
     . cases hj
    have hjl := (List.getElem?_eq_some_iff.1 hjz).1
    have := hc j hjl
    rw [List.getD, hjz, Option.getD_some, add_plain] at this
    exact this
   refine ⟨b, off, rfl, ?_, hcell⟩
   exact zu1 (a := ⟨b, off + 0, none⟩) (v := .int .i64 (zs.getD 0 0)) (by have := hc 0 (by omega); rw [add_plain] at this; exact this)
section
open Go.ChangeShapes
variable {H : Type} {enc : TypeId × Value -> H} {P : Program} {w : World} {base : Nat} {spare : Nat -> Bool} {held : Bool}
theorem zq2 {t0 t1 t2 t3 t4 : TypeId} {args : Array Value} {ds : List (DataW H)} {ps : List MemPlace} (h : DataW.TrodAll enc P w base spare held [t0, t1, t2, t3, t4] args.toList ds ps) :
   ∃ v0 v1 v2 v3 v4 d0 d1 d2 d3 d4 p0 p1 p2 p3 p4, args = #[v0, v1, v2, v3, v4] /\ ds = [d0, d1, d2, d3, d4] /\ ps = p0 ++ p1 ++ p2 ++ p3 ++ p4 /\ DataW.Trod enc P w base spare held t0 v0 d0 p0 /\ DataW.Trod enc P w base spare held t1 v1 d1 p1 /\ DataW.Trod enc P w base spare held t2 v2 d2 p2 /\ DataW.Trod enc P w base spare held t3 v3 d3 p3 /\ DataW.Trod enc P w base spare held t4 v4 d4 p4 := by
 obtain ⟨v0, r0, d0, s0, p0, q0, hargs, rfl, rfl, h0, k0⟩ := trodAll_cons h
 obtain ⟨v1, r1, d1, s1, p1, q1, rfl, rfl, rfl, h1, k1⟩ := trodAll_cons k0
 obtain ⟨v2, r2, d2, s2, p2, q2, rfl, rfl, rfl, h2, k2⟩ := trodAll_cons k1
 obtain ⟨v3, r3, d3, s3, p3, q3, rfl, rfl, rfl, h3, k3⟩ := trodAll_cons k2
 obtain ⟨v4, r4, d4, s4, p4, q4, rfl, rfl, rfl, h4, k4⟩ := trodAll_cons k3
 obtain ⟨rfl, rfl, rfl⟩ := trodAll_nil k4
 exact ⟨v0, v1, v2, v3, v4, d0, d1, d2, d3, d4, p0, p1, p2, p3, p4, by cases args; simp_all, rfl, by simp, h0, h1, h2, h3, h4⟩
theorem zr6 {t0 t1 t2 t3 t4 : TypeId} {v0 v1 v2 v3 v4 : Value} {d0 d1 d2 d3 d4 : DataW H} {p0 p1 p2 p3 p4 : List MemPlace} (h0 : DataW.Trod enc P w base spare held t0 v0 d0 p0) (h1 : DataW.Trod enc P w base spare held t1 v1 d1 p1) (h2 : DataW.Trod enc P w base spare held t2 v2 d2 p2) (h3 : DataW.Trod enc P w base spare held t3 v3 d3 p3) (h4 : DataW.Trod enc P w base spare held t4 v4 d4 p4) : DataW.TrodAll enc P w base spare held [t0, t1, t2, t3, t4] [v0, v1, v2, v3, v4] [d0, d1, d2, d3, d4] (p0 ++ (p1 ++ (p2 ++ (p3 ++ p4)))) :=
 ⟨p0, _, h0, ⟨p1, _, h1, trodAll_mk3 h2 h3 h4, rfl⟩, rfl⟩
end
end Go.Proofs.YtemondlgcmpbbaaGreatDoor
