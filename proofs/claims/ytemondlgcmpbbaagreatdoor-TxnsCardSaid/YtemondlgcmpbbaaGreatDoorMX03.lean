/- Walks: disk.parse: a head out of a block. -/
import Derived.Test.YtemondlgcmpbbaaGreatDoorMX02
import Derived.Deep.RegionHeld3
import Derived.Deep.DeepCutAuto
namespace Go.Proofs.YtemondlgcmpbbaaGreatDoor
open Go.RowKit
set_option maxRecDepth 100000
theorem SlU.headOf {w : World} {A : Option Addr} {n c : Nat} {bytes : List UInt8} (h : SlU w A n c bytes) (k : Nat) (hk : k <= n) : SlU w A k c (bytes.take k) := by
 obtain ⟨h1, h2, h3, h4⟩ := h
 refine ⟨by rw [List.length_take, h1, Nat.min_eq_left hk], by omega, h3, fun h0 => ?_⟩
 obtain ⟨g, o, cur, hA, hg, hx⟩ := h4 (by omega)
 refine ⟨g, o, cur, hA, hg, fun j u hu => hx j u ?_⟩
 rw [zhm, List.getElem?_take] at hu
 split at hu
 . exact hu
 . cases hu
def pGen (b : List UInt8) : Nat := get4 ((b.take 32).drop 8)
def pBlk (b : List UInt8) : Nat := get4 ((b.take 32).drop 12)
def pRgen (b : List UInt8) : Nat := get4 ((b.take 32).drop 16)
def zek (b : List UInt8) : Nat := get4 ((b.take 32).drop 4)
def pOk (b : List UInt8) : Bool := zd7 (b.take 32) && (zek b == 827479123) && decide (0 < pGen b) && decide (pGen b < 1073741824) && (decide (0 < pBlk b) || pRgen b == 0)
theorem zg5 : (Tryz.prog.info? 149).map (·.size) = some 4 := by kernel_rfl
theorem zfm (a b c d : Nat) : ∀ v ∈ (za7 a b c d).toList, v.oneCell' = true := by
 intro v hv
 simp only [za7, List.mem_cons, List.not_mem_nil, or_false] at hv
 rcases hv with rfl | rfl | rfl | rfl <;> rfl
set_option maxHeartbeats 1000000 in
theorem zj7 (slot n c : Nat) (A : Option Addr) (bytes : List UInt8) (w : World) (h : SlU w A n c bytes) (hn : 32 <= n) (hc : 33 <= c) (hn2 : n <= 1000) (hc2 : c <= 1000) :
   Calls Tryz.prog 171 #[.int .i64 slot, .slice A n c] w fun e w' => e = .returned (.tuple #[.agg (za7 slot (pGen bytes) (pBlk bytes) (pRgen bytes)), .bool (pOk bytes)]) /\ Below w.heap.size w w' := by
 obtain ⟨g, o, cur, rfl, hgb⟩ := h.some_ (by omega)
 have h32 := h.headOf 32 hn
 have t4 := h32.tail 4 (by omega) (by omega)
 have t8 := h32.tail 8 (by omega) (by omega)
 have t12 := h32.tail 12 (by omega) (by omega)
 have t16 := h32.tail 16 (by omega) (by omega)
 have hA : ∀ k, 0 < k -> (some (⟨g, o, none⟩ : Addr)).map (·.add k) = some ⟨g, o + k, none⟩ := fun k hk => by simp only [Option.map_some, Addr.add]; rw [if_neg (by omega)]
 rw [hA _ (by omega)] at t4 t8 t12 t16
 have G4 := zaa (fun W (hb : Below w.heap.size w W) => zey (some ⟨g, o + 4, none⟩) 28 (c - 4) _ W (t4.below hb) (by omega) (by omega))
 have G8 := zaa (fun W (hb : Below w.heap.size w W) => zey (some ⟨g, o + 8, none⟩) 24 (c - 8) _ W (t8.below hb) (by omega) (by omega))
 have G12 := zaa (fun W (hb : Below w.heap.size w W) => zey (some ⟨g, o + 12, none⟩) 20 (c - 12) _ W (t12.below hb) (by omega) (by omega))
 have G16 := zaa (fun W (hb : Below w.heap.size w W) => zey (some ⟨g, o + 16, none⟩) 16 (c - 16) _ W (t16.below hb) (by omega) (by omega))
 have GS := zaa (fun W (hb : Below w.heap.size w W) => zop (some ⟨g, o, none⟩) 32 c _ W (h32.below hb) (by omega) (by omega))
 have he : za7 slot (pGen bytes) (pBlk bytes) (pRgen bytes) = #[.int .i64 slot, .int .u32 (get4 (List.drop 8 (List.take 32 bytes)) : Nat), .int .i64 (IntKind.i64.wrap (get4 (List.drop 12 (List.take 32 bytes)) : Nat)), .int .u32 (get4 (List.drop 16 (List.take 32 bytes)) : Nat)] := by
  have hw : IntKind.i64.wrap ((get4 (List.drop 12 (List.take 32 bytes)) : Nat) : Int) = ((get4 (List.drop 12 (List.take 32 bytes)) : Nat) : Int) := by
   have := ztq (List.drop 12 (List.take 32 bytes))
   rw [IntKind.wrap_i64]; omega
  rw [hw]
  rfl
 have HE := zaa he
 clear he
 have q4 : ¬ c = 4 := by omega
 have q8 : ¬ c = 8 := by omega
 have q12 : ¬ c = 12 := by omega
 have q16 : ¬ c = 16 := by omega
 have r1 : (32 : Int) <= n := by omega
 have r2 : (n : Int) <= c := by have := h.2.1; omega
 have r3 : (32 : Int) <= c := by omega
 clear h h32 t4 t8 t12 t16 hA
 go_enter Tryz.func171, Tryz.ntmps171
 go_upto_region 2 with fail
 go_cut [6] (fun s6 wx => s6 = .pointer (some ⟨w.heap.size + 1, 0, none⟩) /\ Blk wx (w.heap.size + 1) 149 (za7 slot (pGen bytes) (pBlk bytes) (pRgen bytes)) /\ Blk wx w.heap.size 149 (za7 0 0 0 0) /\ Below w.heap.size w wx)
 case first =>
  go_wp2_with fail
  go_region_held3 (fun _ => True) (trivial) (first | (go_at_call 193; (with_reducible refine Calls.mono (G8.out _ ?_) ?_); (· first | exact ((Below.refl _ _).alloc (Nat.le_refl _) _).drew | exact (((Below.refl _ _).alloc (Nat.le_refl _) _).alloc (by simp) _).drew | exact (((Below.refl _ _).alloc (Nat.le_refl _) _).drew.alloc (by simp) _)); rintro e w' ⟨rfl, rfl⟩) | (go_at_call 193; (with_reducible refine Calls.mono (G12.out _ ?_) ?_); (· first | exact ((Below.refl _ _).alloc (Nat.le_refl _) _).drew | exact (((Below.refl _ _).alloc (Nat.le_refl _) _).alloc (by simp) _).drew | exact (((Below.refl _ _).alloc (Nat.le_refl _) _).drew.alloc (by simp) _)); rintro e w' ⟨rfl, rfl⟩) | (go_at_call 193; (with_reducible refine Calls.mono (G16.out _ ?_) ?_); (· first | exact ((Below.refl _ _).alloc (Nat.le_refl _) _).drew | exact (((Below.refl _ _).alloc (Nat.le_refl _) _).alloc (by simp) _).drew | exact (((Below.refl _ _).alloc (Nat.le_refl _) _).drew.alloc (by simp) _)); rintro e w' ⟨rfl, rfl⟩))
  all_goals
   go_wp2
   go_meet
   refine ⟨rfl, ?_, ?_, ?_⟩
   . rw [HE.out]; exact (Blk.new2 w _ _ _).drew
   . exact ((Blk.new w _ _).alloc _).drew
   . exact (((Below.refl _ _).alloc (Nat.le_refl _) _).alloc (by simp) _).drew
 case rest =>
  obtain ⟨rfl, hb6, hb4, hbel⟩ := hcut
  have c0 : wc.cell? ⟨w.heap.size + 1, 0, none⟩ = some (.int .i64 slot) := zab hb6 0 rfl
  have c1 : wc.cell? ⟨w.heap.size + 1, 1, none⟩ = some (.int .u32 (pGen bytes : Nat)) := zab hb6 1 rfl
  have c2 : wc.cell? ⟨w.heap.size + 1, 2, none⟩ = some (.int .i64 (pBlk bytes : Nat)) := zab hb6 2 rfl
  have c3 : wc.cell? ⟨w.heap.size + 1, 3, none⟩ = some (.int .u32 (pRgen bytes : Nat)) := zab hb6 3 rfl
  have d0 : wc.cell? ⟨w.heap.size, 0, none⟩ = some (.int .i64 0) := zab hb4 0 rfl
  have d1 : wc.cell? ⟨w.heap.size, 1, none⟩ = some (.int .u32 0) := zab hb4 1 rfl
  have d2 : wc.cell? ⟨w.heap.size, 2, none⟩ = some (.int .i64 0) := zab hb4 2 rfl
  have d3 : wc.cell? ⟨w.heap.size, 3, none⟩ = some (.int .u32 0) := zab hb4 3 rfl
  have f0 : wc.frozen? ⟨w.heap.size, 0, none⟩ = false := hb4.frozen 0
  have f1 : wc.frozen? ⟨w.heap.size, 1, none⟩ = false := hb4.frozen 1
  have f2 : wc.frozen? ⟨w.heap.size, 2, none⟩ = false := hb4.frozen 2
  have f3 : wc.frozen? ⟨w.heap.size, 3, none⟩ = false := hb4.frozen 3
  have HB4 := zaa hb4
  have HBEL := zaa hbel
  have HS0 : Hid (wc.drew.cell? ⟨w.heap.size + 1, 0, none⟩ = some (.int .i64 slot) /\ wc.drew.cell? ⟨w.heap.size + 1, 1, none⟩ = some (.int .u32 (pGen bytes : Nat)) /\ wc.drew.cell? ⟨w.heap.size + 1, 2, none⟩ = some (.int .i64 (pBlk bytes : Nat)) /\ wc.drew.cell? ⟨w.heap.size + 1, 3, none⟩ = some (.int .u32 (pRgen bytes : Nat))) := ⟨c0, c1, c2, c3⟩
  have hz6 := hb6.lt
  have hS3 : ∀ {w3 : World} {k : Nat}, (wc.drew.drewN k).grownBy w3 (some w.heap.size) -> w3.cell? ⟨w.heap.size + 1, 0, none⟩ = some (.int .i64 slot) /\ w3.cell? ⟨w.heap.size + 1, 1, none⟩ = some (.int .u32 (pGen bytes : Nat)) /\ w3.cell? ⟨w.heap.size + 1, 2, none⟩ = some (.int .i64 (pBlk bytes : Nat)) /\ w3.cell? ⟨w.heap.size + 1, 3, none⟩ = some (.int .u32 (pRgen bytes : Nat)) := by
   intro w3 k hg
   have h := hg.block (w.heap.size + 1) hz6 (fun e => by injection e with e; omega)
   refine ⟨?_, ?_, ?_, ?_⟩ <;> rw [World.cell?_of_block h]
   . exact c0
   . exact c1
   . exact c2
   . exact c3
  clear hb4 hb6 hbel c0 c1 c2 c3 d0 d1 d2 d3 f0 f1 f2 f3
  go_wp2_with fail
  refine wp_region_held_drew (S := fun w' => w'.cell? ⟨w.heap.size + 1, 0, none⟩ = some (.int .i64 slot) /\ w'.cell? ⟨w.heap.size + 1, 1, none⟩ = some (.int .u32 (pGen bytes : Nat)) /\ w'.cell? ⟨w.heap.size + 1, 2, none⟩ = some (.int .i64 (pBlk bytes : Nat)) /\ w'.cell? ⟨w.heap.size + 1, 3, none⟩ = some (.int .u32 (pRgen bytes : Nat))) (by kernel_rfl) HS0.out ?_
  intro hS0
  refine zac 0 (.agg #[.int .i64 slot, .int .u32 (pGen bytes : Nat), .int .i64 (pBlk bytes : Nat), .int .u32 (pRgen bytes : Nat)]) (some 22) rfl rfl (.inl ⟨rfl, fun w' hSw => by obtain ⟨s0, s1, s2, s3⟩ := hSw; go_simp⟩) hS0 ?_
  simp only [Act.put, n1, n2, n3]
  refine zac 1 (.slice (some ⟨g, o, none⟩) 32 c) (some 23) rfl rfl (.inl ⟨rfl, fun w' hSw => by go_simp⟩) hS0 ?_
  simp only [Act.put, n1, n2, n3]
  by_cases hs : zd7 (bytes.take 32) = true
  rotate_left
  rw [Bool.not_eq_true] at hs
  have hok : pOk bytes = false := by unfold pOk; rw [hs]; rfl
  rw [hs] at GS
  refine zfv (i := 2) (f := 194) (some 24) (by kernel_rfl) rfl rfl rfl (by first | (go_simp; done) | (go_simp; rfl)) (GS.out _ HBEL.out.drew) (fun _ _ h => h) ?_
  rintro _ ⟨k, rfl⟩
  refine ⟨hS0, ?_⟩
  simp only [Act.put, n1, n2, n3]
  refine zac 3 (.bool false) (some 25) rfl rfl (.inl ⟨rfl, fun w' hSw => by go_simp⟩) hS0 ?_
  simp only [Act.put, n1, n2, n3]
  refine zac 4 undef (some 26) rfl rfl (.inr ⟨rfl, rfl⟩) hS0 ?_
  simp only [Act.put, n1, n2, n3]
  refine zac 5 undef (some 27) rfl rfl (.inr ⟨rfl, rfl⟩) hS0 ?_
  simp only [Act.put, n1, n2, n3]
  refine zac 6 undef (some 28) rfl rfl (.inr ⟨rfl, rfl⟩) hS0 ?_
  simp only [Act.put, n1, n2, n3]
  refine zac 7 undef (some 29) rfl rfl (.inr ⟨rfl, rfl⟩) hS0 ?_
  simp only [Act.put, n1, n2, n3]
  rotate_left
  rw [hs] at GS
  refine zfv (i := 2) (f := 194) (some 24) (by kernel_rfl) rfl rfl rfl (by first | (go_simp; done) | (go_simp; rfl)) (GS.out _ HBEL.out.drew) (fun _ _ h => h) ?_
  rintro _ ⟨k, rfl⟩
  refine ⟨hS0, ?_⟩
  simp only [Act.put, n1, n2, n3]
  refine zac 3 (.bool true) (some 25) rfl rfl (.inl ⟨rfl, fun w' hSw => by go_simp⟩) hS0 ?_
  simp only [Act.put, n1, n2, n3]
  refine zac 4 (.slice (some ⟨g, o, none⟩) 32 c) (some 26) rfl rfl (.inl ⟨rfl, fun w' hSw => by go_simp⟩) hS0 ?_
  simp only [Act.put, n1, n2, n3]
  refine zac 5 (.slice (some ⟨g, o + 4, none⟩) 28 (c - 4)) (some 27) rfl rfl (.inl ⟨rfl, fun w' hSw => by go_simp⟩) hS0 ?_
  simp only [Act.put, n1, n2, n3]
  refine zfv (i := 6) (f := 193) (some 28) (by kernel_rfl) rfl rfl rfl (by first | (go_simp; done) | (go_simp; rfl)) (G4.out _ (zam HBEL.out.drew k)) (fun _ _ h => h) ?_
  rintro _ rfl
  refine ⟨hS0, ?_⟩
  simp only [Act.put, n1, n2, n3]
  by_cases hm : zek bytes = 827479123
  rotate_left
  have e1 : ¬ ((get4 (List.drop 4 (List.take 32 bytes)) : Nat) : Int) = 827479123 := by have h := hm; unfold zek at h; omega
  have hok : pOk bytes = false := by unfold pOk; simp [hm]
  refine zac 7 (.bool false) (some 29) rfl rfl (.inl ⟨rfl, fun w' hSw => by go_simp⟩) hS0 ?_
  simp only [Act.put, n1, n2, n3]
  rotate_left 2
  have e1 : ((get4 (List.drop 4 (List.take 32 bytes)) : Nat) : Int) = 827479123 := by have h := hm; unfold zek at h; omega
  refine zac 7 (.bool true) (some 29) rfl rfl (.inl ⟨rfl, fun w' hSw => by go_simp⟩) hS0 ?_
  simp only [Act.put, n1, n2, n3]
  refine zac 8 (.bool true) (some 30) rfl rfl (.inl ⟨rfl, fun w' hSw => by go_simp⟩) hS0 ?_
  simp only [Act.put, n1, n2, n3]
  refine zac 9 (.bool true) (some 31) rfl rfl (.inl ⟨rfl, fun w' hSw => by go_simp⟩) hS0 ?_
  simp only [Act.put, n1, n2, n3]
  refine zac 10 (.pointer (some ⟨w.heap.size + 1, 1, none⟩)) (some 32) rfl rfl (.inl ⟨rfl, fun w' hSw => by go_simp⟩) hS0 ?_
  simp only [Act.put, n1, n2, n3]
  refine zac 11 (.int .u32 (pGen bytes : Nat)) (some 33) rfl rfl (.inl ⟨rfl, fun w' hSw => by have s1 := hSw.2.1; clear hSw; go_simp⟩) hS0 ?_
  simp only [Act.put, n1, n2, n3]
  by_cases hg : 0 < pGen bytes
  rotate_left
  have g1 : ((pGen bytes : Nat) : Int) = 0 := by omega
  have hok : pOk bytes = false := by unfold pOk; simp [hg]
  refine zac 12 (.bool false) (some 34) rfl rfl (.inl ⟨rfl, fun w' hSw => by clear hSw; go_simp⟩) hS0 ?_
  simp only [Act.put, n1, n2, n3]
  rotate_left
  iterate 2
   refine zac 8 (.bool false) (some 30) rfl rfl (.inl ⟨rfl, fun w' hSw => by go_simp⟩) hS0 ?_
   simp only [Act.put, n1, n2, n3]
   refine zac 9 (.bool false) (some 31) rfl rfl (.inl ⟨rfl, fun w' hSw => by go_simp⟩) hS0 ?_
   simp only [Act.put, n1, n2, n3]
   refine zac 10 undef (some 32) rfl rfl (.inr ⟨rfl, rfl⟩) hS0 ?_
   simp only [Act.put, n1, n2, n3]
   refine zac 11 undef (some 33) rfl rfl (.inr ⟨rfl, rfl⟩) hS0 ?_
   simp only [Act.put, n1, n2, n3]
   refine zac 12 undef (some 34) rfl rfl (.inr ⟨rfl, rfl⟩) hS0 ?_
   simp only [Act.put, n1, n2, n3]
   rotate_left
  have g1 : (0 : Int) < (pGen bytes : Nat) := by omega
  refine zac 12 (.bool true) (some 34) rfl rfl (.inl ⟨rfl, fun w' hSw => by clear hSw; go_simp⟩) hS0 ?_
  simp only [Act.put, n1, n2, n3]
  refine zac 13 (.bool true) (some 35) rfl rfl (.inl ⟨rfl, fun w' hSw => by go_simp⟩) hS0 ?_
  simp only [Act.put, n1, n2, n3]
  refine zac 14 (.bool true) (some 36) rfl rfl (.inl ⟨rfl, fun w' hSw => by go_simp⟩) hS0 ?_
  simp only [Act.put, n1, n2, n3]
  refine zac 15 (.pointer (some ⟨w.heap.size + 1, 1, none⟩)) (some 37) rfl rfl (.inl ⟨rfl, fun w' hSw => by go_simp⟩) hS0 ?_
  simp only [Act.put, n1, n2, n3]
  refine zac 16 (.int .u32 (pGen bytes : Nat)) (some 38) rfl rfl (.inl ⟨rfl, fun w' hSw => by have s1 := hSw.2.1; clear hSw; go_simp⟩) hS0 ?_
  simp only [Act.put, n1, n2, n3]
  by_cases hg2 : pGen bytes < 1073741824
  rotate_left
  have g2 : (1073741824 : Int) <= (pGen bytes : Nat) := by omega
  have hok : pOk bytes = false := by unfold pOk; simp [hg2]
  refine zac 17 (.bool false) (some 39) rfl rfl (.inl ⟨rfl, fun w' hSw => by clear hSw; go_simp⟩) hS0 ?_
  simp only [Act.put, n1, n2, n3]
  rotate_left
  iterate 3
   refine zac 13 (.bool false) (some 35) rfl rfl (.inl ⟨rfl, fun w' hSw => by go_simp⟩) hS0 ?_
   simp only [Act.put, n1, n2, n3]
   refine zac 14 (.bool false) (some 36) rfl rfl (.inl ⟨rfl, fun w' hSw => by go_simp⟩) hS0 ?_
   simp only [Act.put, n1, n2, n3]
   refine zac 15 undef (some 37) rfl rfl (.inr ⟨rfl, rfl⟩) hS0 ?_
   simp only [Act.put, n1, n2, n3]
   refine zac 16 undef (some 38) rfl rfl (.inr ⟨rfl, rfl⟩) hS0 ?_
   simp only [Act.put, n1, n2, n3]
   refine zac 17 undef (some 39) rfl rfl (.inr ⟨rfl, rfl⟩) hS0 ?_
   simp only [Act.put, n1, n2, n3]
   rotate_left
  have g2 : ((pGen bytes : Nat) : Int) < 1073741824 := by omega
  refine zac 17 (.bool true) (some 39) rfl rfl (.inl ⟨rfl, fun w' hSw => by clear hSw; go_simp⟩) hS0 ?_
  simp only [Act.put, n1, n2, n3]
  refine zac 18 (.bool true) (some 40) rfl rfl (.inl ⟨rfl, fun w' hSw => by go_simp⟩) hS0 ?_
  simp only [Act.put, n1, n2, n3]
  refine zac 19 (.bool true) (some 41) rfl rfl (.inl ⟨rfl, fun w' hSw => by go_simp⟩) hS0 ?_
  simp only [Act.put, n1, n2, n3]
  refine zac 20 (.pointer (some ⟨w.heap.size + 1, 2, none⟩)) (some 42) rfl rfl (.inl ⟨rfl, fun w' hSw => by go_simp⟩) hS0 ?_
  simp only [Act.put, n1, n2, n3]
  refine zac 21 (.pointer (some ⟨w.heap.size + 1, 2, none⟩)) (some 43) rfl rfl (.inl ⟨rfl, fun w' hSw => by go_simp⟩) hS0 ?_
  simp only [Act.put, n1, n2, n3]
  refine zac 22 (.int .i64 (pBlk bytes : Nat)) (some 44) rfl rfl (.inl ⟨rfl, fun w' hSw => by have s1 := hSw.2.2.1; clear hSw; go_simp⟩) hS0 ?_
  simp only [Act.put, n1, n2, n3]
  by_cases hb : 0 < pBlk bytes
  have k1 : (0 : Int) < (pBlk bytes : Nat) := by omega
  have hok : pOk bytes = true := by unfold pOk; rw [hs, hm]; simp [hg, hg2, hb]
  refine zac 23 (.bool true) (some 45) rfl rfl (.inl ⟨rfl, fun w' hSw => by clear hSw; go_simp⟩) hS0 ?_
  simp only [Act.put, n1, n2, n3]
  refine zac 24 (.bool true) (some 46) rfl rfl (.inl ⟨rfl, fun w' hSw => by go_simp⟩) hS0 ?_
  simp only [Act.put, n1, n2, n3]
  refine zac 25 undef (some 47) rfl rfl (.inr ⟨rfl, rfl⟩) hS0 ?_
  simp only [Act.put, n1, n2, n3]
  refine zac 26 undef (some 48) rfl rfl (.inr ⟨rfl, rfl⟩) hS0 ?_
  simp only [Act.put, n1, n2, n3]
  refine zac 27 undef (some 49) rfl rfl (.inr ⟨rfl, rfl⟩) hS0 ?_
  simp only [Act.put, n1, n2, n3]
  refine zac 28 undef (some 50) rfl rfl (.inr ⟨rfl, rfl⟩) hS0 ?_
  simp only [Act.put, n1, n2, n3]
  refine zac 29 (.bool true) (some 51) rfl rfl (.inl ⟨rfl, fun w' hSw => by go_simp⟩) hS0 ?_
  simp only [Act.put, n1, n2, n3]
  rotate_left
  have k1 : ((pBlk bytes : Nat) : Int) = 0 := by omega
  refine zac 23 (.bool false) (some 45) rfl rfl (.inl ⟨rfl, fun w' hSw => by clear hSw; go_simp⟩) hS0 ?_
  simp only [Act.put, n1, n2, n3]
  refine zac 24 (.bool false) (some 46) rfl rfl (.inl ⟨rfl, fun w' hSw => by go_simp⟩) hS0 ?_
  simp only [Act.put, n1, n2, n3]
  refine zac 25 (.pointer (some ⟨w.heap.size + 1, 2, none⟩)) (some 47) rfl rfl (.inl ⟨rfl, fun w' hSw => by go_simp⟩) hS0 ?_
  simp only [Act.put, n1, n2, n3]
  refine zac 26 (.pointer (some ⟨w.heap.size + 1, 3, none⟩)) (some 48) rfl rfl (.inl ⟨rfl, fun w' hSw => by go_simp⟩) hS0 ?_
  simp only [Act.put, n1, n2, n3]
  refine zac 27 (.int .u32 (pRgen bytes : Nat)) (some 49) rfl rfl (.inl ⟨rfl, fun w' hSw => by have s1 := hSw.2.2.2; clear hSw; go_simp⟩) hS0 ?_
  simp only [Act.put, n1, n2, n3]
  by_cases hr : pRgen bytes = 0
  have k2 : ((pRgen bytes : Nat) : Int) = 0 := by omega
  have hok : pOk bytes = true := by unfold pOk; rw [hs, hm]; simp [hg, hg2, hr]
  refine zac 28 (.bool true) (some 50) rfl rfl (.inl ⟨rfl, fun w' hSw => by clear hSw; go_simp⟩) hS0 ?_
  simp only [Act.put, n1, n2, n3]
  refine zac 29 (.bool true) (some 51) rfl rfl (.inl ⟨rfl, fun w' hSw => by go_simp⟩) hS0 ?_
  simp only [Act.put, n1, n2, n3]
  rotate_left
  have k2 : ¬ ((pRgen bytes : Nat) : Int) = 0 := by omega
  have hok : pOk bytes = false := by unfold pOk; rw [hs, hm]; simp [hg, hg2, hr]; omega
  refine zac 28 (.bool false) (some 50) rfl rfl (.inl ⟨rfl, fun w' hSw => by clear hSw; go_simp⟩) hS0 ?_
  simp only [Act.put, n1, n2, n3]
  refine zac 29 (.bool false) (some 51) rfl rfl (.inl ⟨rfl, fun w' hSw => by go_simp⟩) hS0 ?_
  simp only [Act.put, n1, n2, n3]
  rotate_left
  iterate 4
   refine zac 18 (.bool false) (some 40) rfl rfl (.inl ⟨rfl, fun w' hSw => by go_simp⟩) hS0 ?_
   simp only [Act.put, n1, n2, n3]
   refine zac 19 (.bool false) (some 41) rfl rfl (.inl ⟨rfl, fun w' hSw => by go_simp⟩) hS0 ?_
   simp only [Act.put, n1, n2, n3]
   refine zac 20 undef (some 42) rfl rfl (.inr ⟨rfl, rfl⟩) hS0 ?_
   simp only [Act.put, n1, n2, n3]
   refine zac 21 undef (some 43) rfl rfl (.inr ⟨rfl, rfl⟩) hS0 ?_
   simp only [Act.put, n1, n2, n3]
   refine zac 22 undef (some 44) rfl rfl (.inr ⟨rfl, rfl⟩) hS0 ?_
   simp only [Act.put, n1, n2, n3]
   refine zac 23 undef (some 45) rfl rfl (.inr ⟨rfl, rfl⟩) hS0 ?_
   simp only [Act.put, n1, n2, n3]
   refine zac 24 undef (some 46) rfl rfl (.inr ⟨rfl, rfl⟩) hS0 ?_
   simp only [Act.put, n1, n2, n3]
   refine zac 25 undef (some 47) rfl rfl (.inr ⟨rfl, rfl⟩) hS0 ?_
   simp only [Act.put, n1, n2, n3]
   refine zac 26 undef (some 48) rfl rfl (.inr ⟨rfl, rfl⟩) hS0 ?_
   simp only [Act.put, n1, n2, n3]
   refine zac 27 undef (some 49) rfl rfl (.inr ⟨rfl, rfl⟩) hS0 ?_
   simp only [Act.put, n1, n2, n3]
   refine zac 28 undef (some 50) rfl rfl (.inr ⟨rfl, rfl⟩) hS0 ?_
   simp only [Act.put, n1, n2, n3]
   refine zac 29 undef (some 51) rfl rfl (.inr ⟨rfl, rfl⟩) hS0 ?_
   simp only [Act.put, n1, n2, n3]
   rotate_left
  iterate 2
   refine zac 30 (.bool true) (some 52) rfl rfl (.inl ⟨rfl, fun w' hSw => by go_simp⟩) hS0 ?_
   simp only [Act.put, n1, n2, n3]
   refine zaw (i := 31) (by kernel_rfl) rfl rfl ?_
   refine zc5 149 (.tmp 4) (.tmp 22) rfl w.heap.size 0 (za7 slot (pGen bytes) (pBlk bytes) (pRgen bytes)).toList rfl rfl 149 (za7 0 0 0 0).toList (HB4.out.drew.drewN k) (Nat.le_refl _) zg5 (zfm _ _ _ _) ?_
   intro w3 hb3 hg3 hs3
   refine ⟨hS3 hg3, ?_⟩
   change wpAnyH _ _ _ _ _ _ _ (Act.put _ none undef) _
   simp only [Act.put]
   refine zdy (i := 32) (w' := w3) (v := (.bool true)) (some 5) (by kernel_rfl) rfl rfl rfl (by go_simp) (hS3 hg3) ?_
   simp only [Act.put, n1, n2, n3]
   refine wpAnyH_done (by kernel_rfl) ?_ _
   go_wp2
   have hb3' : Blk w3 w.heap.size 149 (za7 slot (pGen bytes) (pBlk bytes) (pRgen bytes)) := by rw [ze7 (L := (za7 0 0 0 0).toList) (cs := (za7 slot (pGen bytes) (pBlk bytes) (pRgen bytes)).toList) rfl] at hb3; exact hb3
   have p0 := zab hb3' 0 rfl
   have p1 := zab hb3' 1 rfl
   have p2 := zab hb3' 2 rfl
   have p3 := zab hb3' 3 rfl
   exact bodyPost_ret (v := .tuple #[.agg (za7 slot (pGen bytes) (pBlk bytes) (pRgen bytes)), (.bool true)]) (by simp [results, Tryz.results171, go_sem, p0, p1, p2, p3]; rfl) rfl ⟨by rw [hok], (zam HBEL.out.drew k).grown hg3 HBEL.out.size fun g' e => by injection e with e; omega⟩
  iterate 5
   refine zac 30 (.bool false) (some 52) rfl rfl (.inl ⟨rfl, fun w' hSw => by go_simp⟩) hS0 ?_
   simp only [Act.put, n1, n2, n3]
   refine zaw (i := 31) (by kernel_rfl) rfl rfl ?_
   refine zc5 149 (.tmp 4) (.tmp 22) rfl w.heap.size 0 (za7 slot (pGen bytes) (pBlk bytes) (pRgen bytes)).toList rfl rfl 149 (za7 0 0 0 0).toList (HB4.out.drew.drewN k) (Nat.le_refl _) zg5 (zfm _ _ _ _) ?_
   intro w3 hb3 hg3 hs3
   refine ⟨hS3 hg3, ?_⟩
   change wpAnyH _ _ _ _ _ _ _ (Act.put _ none undef) _
   simp only [Act.put]
   refine zdy (i := 32) (w' := w3) (v := (.bool false)) (some 5) (by kernel_rfl) rfl rfl rfl (by go_simp) (hS3 hg3) ?_
   simp only [Act.put, n1, n2, n3]
   refine wpAnyH_done (by kernel_rfl) ?_ _
   go_wp2
   have hb3' : Blk w3 w.heap.size 149 (za7 slot (pGen bytes) (pBlk bytes) (pRgen bytes)) := by rw [ze7 (L := (za7 0 0 0 0).toList) (cs := (za7 slot (pGen bytes) (pBlk bytes) (pRgen bytes)).toList) rfl] at hb3; exact hb3
   have p0 := zab hb3' 0 rfl
   have p1 := zab hb3' 1 rfl
   have p2 := zab hb3' 2 rfl
   have p3 := zab hb3' 3 rfl
   exact bodyPost_ret (v := .tuple #[.agg (za7 slot (pGen bytes) (pBlk bytes) (pRgen bytes)), (.bool false)]) (by simp [results, Tryz.results171, go_sem, p0, p1, p2, p3]; rfl) rfl ⟨by rw [hok], (zam HBEL.out.drew k).grown hg3 HBEL.out.size fun g' e => by injection e with e; omega⟩
end Go.Proofs.YtemondlgcmpbbaaGreatDoor
