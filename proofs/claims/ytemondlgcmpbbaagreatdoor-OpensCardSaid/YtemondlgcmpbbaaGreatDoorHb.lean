/- Walks: disk.parse: a head out of a block. -/
import Derived.Test.YtemondlgcmpbbaaGreatDoorHa
import Derived.Deep.RegionHeld3
import Derived.Deep.DeepCutAuto
namespace Go.Proofs.YtemondlgcmpbbaaGreatDoor
open Go.RowKit

theorem SlU.headOf {w : World} {A : Option Addr} {n c : Nat} {bytes : List UInt8} (h : SlU w A n c bytes) (k : Nat) (hk : k ≤ n) : SlU w A k c (bytes.take k) := by
  obtain ⟨h1, h2, h3, h4⟩ := h
  refine ⟨by rw [List.length_take, h1, Nat.min_eq_left hk], by omega, h3, fun h0 => ?_⟩
  obtain ⟨g, o, cur, hA, hg, hx⟩ := h4 (by omega)
  refine ⟨g, o, cur, hA, hg, fun j u hu => hx j u ?_⟩
  rw [bc_take, List.getElem?_take] at hu
  split at hu
  · exact hu
  · cases hu

/-- What a sector says as a head. -/
def pGen (b : List UInt8) : Nat := get4 ((b.take 32).drop 8)
def pBlk (b : List UInt8) : Nat := get4 ((b.take 32).drop 12)
def pRgen (b : List UInt8) : Nat := get4 ((b.take 32).drop 16)
def pMagic (b : List UInt8) : Nat := get4 ((b.take 32).drop 4)
/-- Is it one? -/
def pOk (b : List UInt8) : Bool := sealedN (b.take 32) && (pMagic b == 827479123) && decide (0 < pGen b) && decide (pGen b < 1073741824) && (decide (0 < pBlk b) || pRgen b == 0)

theorem size_head : (Tryz.prog.info? 149).map (·.size) = some 4 := by kernel_rfl
theorem headV_one (a b c d : Nat) : ∀ v ∈ (headV a b c d).toList, v.oneCell' = true := by
  intro v hv
  simp only [headV, List.mem_cons, List.not_mem_nil, or_false] at hv
  rcases hv with rfl | rfl | rfl | rfl <;> rfl

set_option maxRecDepth 100000 in
set_option maxHeartbeats 1000000 in
theorem parse_b (slot n c : Nat) (A : Option Addr) (bytes : List UInt8) (w : World) (h : SlU w A n c bytes) (hn : 32 ≤ n) (hc : 33 ≤ c) (hn2 : n ≤ 1000) (hc2 : c ≤ 1000) (hs : sealedN (bytes.take 32) = true) (hm : pMagic bytes = 827479123) (hg : 0 < pGen bytes) (hg2 : pGen bytes < 1073741824) (hb : 0 < pBlk bytes) :
    Calls Tryz.prog 171 #[.int .i64 slot, .slice A n c] w fun e w' => e = .returned (.tuple #[.agg (headV slot (pGen bytes) (pBlk bytes) (pRgen bytes)), .bool true]) ∧ Below w.heap.size w w' := by
  obtain ⟨g, o, cur, rfl, hgb⟩ := h.some_ (by omega)
  have h32 := h.headOf 32 hn
  have t4 := h32.tail 4 (by omega) (by omega)
  have t8 := h32.tail 8 (by omega) (by omega)
  have t12 := h32.tail 12 (by omega) (by omega)
  have t16 := h32.tail 16 (by omega) (by omega)
  have hA : ∀ k, 0 < k → (some (⟨g, o, none⟩ : Addr)).map (·.add k) = some ⟨g, o + k, none⟩ := fun k hk => by simp only [Option.map_some, Addr.add]; rw [if_neg (by omega)]
  rw [hA _ (by omega)] at t4 t8 t12 t16
  have G4 := hide (fun W (hb : Below w.heap.size w W) => dget32_any (some ⟨g, o + 4, none⟩) 28 (c - 4) _ W (t4.below hb) (by omega) (by omega))
  have G8 := hide (fun W (hb : Below w.heap.size w W) => dget32_any (some ⟨g, o + 8, none⟩) 24 (c - 8) _ W (t8.below hb) (by omega) (by omega))
  have G12 := hide (fun W (hb : Below w.heap.size w W) => dget32_any (some ⟨g, o + 12, none⟩) 20 (c - 12) _ W (t12.below hb) (by omega) (by omega))
  have G16 := hide (fun W (hb : Below w.heap.size w W) => dget32_any (some ⟨g, o + 16, none⟩) 16 (c - 16) _ W (t16.below hb) (by omega) (by omega))
  have GS := hide (fun W (hb : Below w.heap.size w W) => sealed_any (some ⟨g, o, none⟩) 32 c _ W (h32.below hb) (by omega) (by omega))
  rw [hs] at GS
  have he : headV slot (pGen bytes) (pBlk bytes) (pRgen bytes) = #[.int .i64 slot, .int .u32 (get4 (List.drop 8 (List.take 32 bytes)) : Nat), .int .i64 (IntKind.i64.wrap (get4 (List.drop 12 (List.take 32 bytes)) : Nat)), .int .u32 (get4 (List.drop 16 (List.take 32 bytes)) : Nat)] := by
    have hw : IntKind.i64.wrap ((get4 (List.drop 12 (List.take 32 bytes)) : Nat) : Int) = ((get4 (List.drop 12 (List.take 32 bytes)) : Nat) : Int) := by
      have := get4_lt (List.drop 12 (List.take 32 bytes))
      rw [IntKind.wrap_i64]; omega
    rw [hw]
    rfl
  have HE := hide he
  clear he
  have q4 : ¬ c = 4 := by omega
  have q8 : ¬ c = 8 := by omega
  have q12 : ¬ c = 12 := by omega
  have q16 : ¬ c = 16 := by omega
  have r1 : (32 : Int) ≤ n := by omega
  have r2 : (n : Int) ≤ c := by have := h.2.1; omega
  have r3 : (32 : Int) ≤ c := by omega
  clear h h32 t4 t8 t12 t16 hA
  go_enter Tryz.func171, Tryz.ntmps171
  go_upto_region 2 with fail
  go_cut [6] (fun s6 wx => s6 = .pointer (some ⟨w.heap.size + 1, 0, none⟩) ∧ Blk wx (w.heap.size + 1) 149 (headV slot (pGen bytes) (pBlk bytes) (pRgen bytes)) ∧ Blk wx w.heap.size 149 (headV 0 0 0 0) ∧ Below w.heap.size w wx)
  case first =>
    go_wp2_with fail
    go_region_held3 (fun _ => True) (trivial) (first | (go_at_call 193; (with_reducible refine Calls.mono (G8.out _ ?_) ?_); (· first | exact ((Below.refl _ _).alloc (Nat.le_refl _) _).drew | exact (((Below.refl _ _).alloc (Nat.le_refl _) _).alloc (by simp) _).drew | exact (((Below.refl _ _).alloc (Nat.le_refl _) _).drew.alloc (by simp) _)); rintro e w' ⟨rfl, rfl⟩) | (go_at_call 193; (with_reducible refine Calls.mono (G12.out _ ?_) ?_); (· first | exact ((Below.refl _ _).alloc (Nat.le_refl _) _).drew | exact (((Below.refl _ _).alloc (Nat.le_refl _) _).alloc (by simp) _).drew | exact (((Below.refl _ _).alloc (Nat.le_refl _) _).drew.alloc (by simp) _)); rintro e w' ⟨rfl, rfl⟩) | (go_at_call 193; (with_reducible refine Calls.mono (G16.out _ ?_) ?_); (· first | exact ((Below.refl _ _).alloc (Nat.le_refl _) _).drew | exact (((Below.refl _ _).alloc (Nat.le_refl _) _).alloc (by simp) _).drew | exact (((Below.refl _ _).alloc (Nat.le_refl _) _).drew.alloc (by simp) _)); rintro e w' ⟨rfl, rfl⟩))
    all_goals
      go_wp2
      go_meet
      refine ⟨rfl, ?_, ?_, ?_⟩
      · rw [HE.out]; exact (Blk.new2 w _ _ _).drew
      · exact ((Blk.new w _ _).alloc _).drew
      · exact (((Below.refl _ _).alloc (Nat.le_refl _) _).alloc (by simp) _).drew
  case rest =>
    obtain ⟨rfl, hb6, hb4, hbel⟩ := hcut
    have c0 : wc.cell? ⟨w.heap.size + 1, 0, none⟩ = some (.int .i64 slot) := cellOf hb6 0 rfl
    have c1 : wc.cell? ⟨w.heap.size + 1, 1, none⟩ = some (.int .u32 (pGen bytes : Nat)) := cellOf hb6 1 rfl
    have c2 : wc.cell? ⟨w.heap.size + 1, 2, none⟩ = some (.int .i64 (pBlk bytes : Nat)) := cellOf hb6 2 rfl
    have c3 : wc.cell? ⟨w.heap.size + 1, 3, none⟩ = some (.int .u32 (pRgen bytes : Nat)) := cellOf hb6 3 rfl
    have d0 : wc.cell? ⟨w.heap.size, 0, none⟩ = some (.int .i64 0) := cellOf hb4 0 rfl
    have d1 : wc.cell? ⟨w.heap.size, 1, none⟩ = some (.int .u32 0) := cellOf hb4 1 rfl
    have d2 : wc.cell? ⟨w.heap.size, 2, none⟩ = some (.int .i64 0) := cellOf hb4 2 rfl
    have d3 : wc.cell? ⟨w.heap.size, 3, none⟩ = some (.int .u32 0) := cellOf hb4 3 rfl
    have f0 : wc.frozen? ⟨w.heap.size, 0, none⟩ = false := hb4.frozen 0
    have f1 : wc.frozen? ⟨w.heap.size, 1, none⟩ = false := hb4.frozen 1
    have f2 : wc.frozen? ⟨w.heap.size, 2, none⟩ = false := hb4.frozen 2
    have f3 : wc.frozen? ⟨w.heap.size, 3, none⟩ = false := hb4.frozen 3
    have e1 : ((get4 (List.drop 4 (List.take 32 bytes)) : Nat) : Int) = 827479123 := by have h := hm; unfold pMagic at h; omega
    have g1 : (0 : Int) < (pGen bytes : Nat) := by omega
    have g2 : ((pGen bytes : Nat) : Int) < 1073741824 := by omega
    have k1 : (0 : Int) < (pBlk bytes : Nat) := by omega
    have HB4 := hide hb4
    have HBEL := hide hbel
    have HM := hide hm
    have HS0 : Hid (wc.drew.cell? ⟨w.heap.size + 1, 0, none⟩ = some (.int .i64 slot) ∧ wc.drew.cell? ⟨w.heap.size + 1, 1, none⟩ = some (.int .u32 (pGen bytes : Nat)) ∧ wc.drew.cell? ⟨w.heap.size + 1, 2, none⟩ = some (.int .i64 (pBlk bytes : Nat)) ∧ wc.drew.cell? ⟨w.heap.size + 1, 3, none⟩ = some (.int .u32 (pRgen bytes : Nat))) := ⟨c0, c1, c2, c3⟩
    have hz6 := hb6.lt
    have hS3 : ∀ {w3 : World} {k : Nat}, (wc.drew.drewN k).grownBy w3 (some w.heap.size) → w3.cell? ⟨w.heap.size + 1, 0, none⟩ = some (.int .i64 slot) ∧ w3.cell? ⟨w.heap.size + 1, 1, none⟩ = some (.int .u32 (pGen bytes : Nat)) ∧ w3.cell? ⟨w.heap.size + 1, 2, none⟩ = some (.int .i64 (pBlk bytes : Nat)) ∧ w3.cell? ⟨w.heap.size + 1, 3, none⟩ = some (.int .u32 (pRgen bytes : Nat)) := by
      intro w3 k hg
      have h := hg.block (w.heap.size + 1) hz6 (fun e => by injection e with e; omega)
      refine ⟨?_, ?_, ?_, ?_⟩ <;> rw [World.cell?_of_block h]
      · exact c0
      · exact c1
      · exact c2
      · exact c3
    clear hb4 hb6 hbel c0 c1 c2 c3 d0 d1 d2 d3 f0 f1 f2 f3
    go_wp2_with fail
    refine wp_region_held_drew (S := fun w' => w'.cell? ⟨w.heap.size + 1, 0, none⟩ = some (.int .i64 slot) ∧ w'.cell? ⟨w.heap.size + 1, 1, none⟩ = some (.int .u32 (pGen bytes : Nat)) ∧ w'.cell? ⟨w.heap.size + 1, 2, none⟩ = some (.int .i64 (pBlk bytes : Nat)) ∧ w'.cell? ⟨w.heap.size + 1, 3, none⟩ = some (.int .u32 (pRgen bytes : Nat))) (by kernel_rfl) HS0.out ?_
    intro hS0
    refine wpAnyH_takeD (i := 0) (v := (.agg #[.int .i64 slot, .int .u32 (pGen bytes : Nat), .int .i64 (pBlk bytes : Nat), .int .u32 (pRgen bytes : Nat)])) (some 22) rfl rfl (by kernel_rfl) (by kernel_rfl) (by kernel_rfl) (fun _ _ _ h => h) (Or.inl ⟨rfl, fun w' hSw => by obtain ⟨s0, s1, s2, s3⟩ := hSw; go_simp⟩) hS0 ?_
    simp only [Act.put, List.setIfInBounds_toArray, List.set_cons_zero, List.set_cons_succ]
    refine wpAnyH_takeD (i := 1) (v := (.slice (some ⟨g, o, none⟩) 32 c)) (some 23) rfl rfl (by kernel_rfl) (by kernel_rfl) (by kernel_rfl) (fun _ _ _ h => h) (Or.inl ⟨rfl, fun w' hSw => by go_simp⟩) hS0 ?_
    simp only [Act.put, List.setIfInBounds_toArray, List.set_cons_zero, List.set_cons_succ]
    refine wpAnyH_call (i := 2) (f := 194) (some 24) (by kernel_rfl) rfl rfl rfl (by go_simp) (GS.out _ HBEL.out.drew) (fun _ _ h => h) ?_
    rintro _ ⟨k, rfl⟩
    refine ⟨hS0, ?_⟩
    simp only [Act.put, List.setIfInBounds_toArray, List.set_cons_zero, List.set_cons_succ]
    refine wpAnyH_takeD (i := 3) (v := (.bool true)) (some 25) rfl rfl (by kernel_rfl) (by kernel_rfl) (by kernel_rfl) (fun _ _ _ h => h) (Or.inl ⟨rfl, fun w' hSw => by go_simp⟩) hS0 ?_
    simp only [Act.put, List.setIfInBounds_toArray, List.set_cons_zero, List.set_cons_succ]
    refine wpAnyH_takeD (i := 4) (v := (.slice (some ⟨g, o, none⟩) 32 c)) (some 26) rfl rfl (by kernel_rfl) (by kernel_rfl) (by kernel_rfl) (fun _ _ _ h => h) (Or.inl ⟨rfl, fun w' hSw => by go_simp⟩) hS0 ?_
    simp only [Act.put, List.setIfInBounds_toArray, List.set_cons_zero, List.set_cons_succ]
    refine wpAnyH_takeD (i := 5) (v := (.slice (some ⟨g, o + 4, none⟩) 28 (c - 4))) (some 27) rfl rfl (by kernel_rfl) (by kernel_rfl) (by kernel_rfl) (fun _ _ _ h => h) (Or.inl ⟨rfl, fun w' hSw => by go_simp⟩) hS0 ?_
    simp only [Act.put, List.setIfInBounds_toArray, List.set_cons_zero, List.set_cons_succ]
    refine wpAnyH_call (i := 6) (f := 193) (some 28) (by kernel_rfl) rfl rfl rfl (by go_simp) (G4.out _ (below_drewN HBEL.out.drew k)) (fun _ _ h => h) ?_
    rintro _ rfl
    refine ⟨hS0, ?_⟩
    simp only [Act.put, List.setIfInBounds_toArray, List.set_cons_zero, List.set_cons_succ]
    refine wpAnyH_takeD (i := 7) (v := (.bool true)) (some 29) rfl rfl (by kernel_rfl) (by kernel_rfl) (by kernel_rfl) (fun _ _ _ h => h) (Or.inl ⟨rfl, fun w' hSw => by go_simp⟩) hS0 ?_
    simp only [Act.put, List.setIfInBounds_toArray, List.set_cons_zero, List.set_cons_succ]
    refine wpAnyH_takeD (i := 8) (v := (.bool true)) (some 30) rfl rfl (by kernel_rfl) (by kernel_rfl) (by kernel_rfl) (fun _ _ _ h => h) (Or.inl ⟨rfl, fun w' hSw => by go_simp⟩) hS0 ?_
    simp only [Act.put, List.setIfInBounds_toArray, List.set_cons_zero, List.set_cons_succ]
    refine wpAnyH_takeD (i := 9) (v := (.bool true)) (some 31) rfl rfl (by kernel_rfl) (by kernel_rfl) (by kernel_rfl) (fun _ _ _ h => h) (Or.inl ⟨rfl, fun w' hSw => by go_simp⟩) hS0 ?_
    simp only [Act.put, List.setIfInBounds_toArray, List.set_cons_zero, List.set_cons_succ]
    refine wpAnyH_takeD (i := 10) (v := (.pointer (some ⟨w.heap.size + 1, 1, none⟩))) (some 32) rfl rfl (by kernel_rfl) (by kernel_rfl) (by kernel_rfl) (fun _ _ _ h => h) (Or.inl ⟨rfl, fun w' hSw => by go_simp⟩) hS0 ?_
    simp only [Act.put, List.setIfInBounds_toArray, List.set_cons_zero, List.set_cons_succ]
    refine wpAnyH_takeD (i := 11) (v := (.int .u32 (pGen bytes : Nat))) (some 33) rfl rfl (by kernel_rfl) (by kernel_rfl) (by kernel_rfl) (fun _ _ _ h => h) (Or.inl ⟨rfl, fun w' hSw => by have s1 := hSw.2.1; clear hSw; go_simp⟩) hS0 ?_
    simp only [Act.put, List.setIfInBounds_toArray, List.set_cons_zero, List.set_cons_succ]
    refine wpAnyH_takeD (i := 12) (v := (.bool true)) (some 34) rfl rfl (by kernel_rfl) (by kernel_rfl) (by kernel_rfl) (fun _ _ _ h => h) (Or.inl ⟨rfl, fun w' hSw => by clear hSw; go_simp⟩) hS0 ?_
    simp only [Act.put, List.setIfInBounds_toArray, List.set_cons_zero, List.set_cons_succ]
    refine wpAnyH_takeD (i := 13) (v := (.bool true)) (some 35) rfl rfl (by kernel_rfl) (by kernel_rfl) (by kernel_rfl) (fun _ _ _ h => h) (Or.inl ⟨rfl, fun w' hSw => by go_simp⟩) hS0 ?_
    simp only [Act.put, List.setIfInBounds_toArray, List.set_cons_zero, List.set_cons_succ]
    refine wpAnyH_takeD (i := 14) (v := (.bool true)) (some 36) rfl rfl (by kernel_rfl) (by kernel_rfl) (by kernel_rfl) (fun _ _ _ h => h) (Or.inl ⟨rfl, fun w' hSw => by go_simp⟩) hS0 ?_
    simp only [Act.put, List.setIfInBounds_toArray, List.set_cons_zero, List.set_cons_succ]
    refine wpAnyH_takeD (i := 15) (v := (.pointer (some ⟨w.heap.size + 1, 1, none⟩))) (some 37) rfl rfl (by kernel_rfl) (by kernel_rfl) (by kernel_rfl) (fun _ _ _ h => h) (Or.inl ⟨rfl, fun w' hSw => by go_simp⟩) hS0 ?_
    simp only [Act.put, List.setIfInBounds_toArray, List.set_cons_zero, List.set_cons_succ]
    refine wpAnyH_takeD (i := 16) (v := (.int .u32 (pGen bytes : Nat))) (some 38) rfl rfl (by kernel_rfl) (by kernel_rfl) (by kernel_rfl) (fun _ _ _ h => h) (Or.inl ⟨rfl, fun w' hSw => by have s1 := hSw.2.1; clear hSw; go_simp⟩) hS0 ?_
    simp only [Act.put, List.setIfInBounds_toArray, List.set_cons_zero, List.set_cons_succ]
    refine wpAnyH_takeD (i := 17) (v := (.bool true)) (some 39) rfl rfl (by kernel_rfl) (by kernel_rfl) (by kernel_rfl) (fun _ _ _ h => h) (Or.inl ⟨rfl, fun w' hSw => by clear hSw; go_simp⟩) hS0 ?_
    simp only [Act.put, List.setIfInBounds_toArray, List.set_cons_zero, List.set_cons_succ]
    refine wpAnyH_takeD (i := 18) (v := (.bool true)) (some 40) rfl rfl (by kernel_rfl) (by kernel_rfl) (by kernel_rfl) (fun _ _ _ h => h) (Or.inl ⟨rfl, fun w' hSw => by go_simp⟩) hS0 ?_
    simp only [Act.put, List.setIfInBounds_toArray, List.set_cons_zero, List.set_cons_succ]
    refine wpAnyH_takeD (i := 19) (v := (.bool true)) (some 41) rfl rfl (by kernel_rfl) (by kernel_rfl) (by kernel_rfl) (fun _ _ _ h => h) (Or.inl ⟨rfl, fun w' hSw => by go_simp⟩) hS0 ?_
    simp only [Act.put, List.setIfInBounds_toArray, List.set_cons_zero, List.set_cons_succ]
    refine wpAnyH_takeD (i := 20) (v := (.pointer (some ⟨w.heap.size + 1, 2, none⟩))) (some 42) rfl rfl (by kernel_rfl) (by kernel_rfl) (by kernel_rfl) (fun _ _ _ h => h) (Or.inl ⟨rfl, fun w' hSw => by go_simp⟩) hS0 ?_
    simp only [Act.put, List.setIfInBounds_toArray, List.set_cons_zero, List.set_cons_succ]
    refine wpAnyH_takeD (i := 21) (v := (.pointer (some ⟨w.heap.size + 1, 2, none⟩))) (some 43) rfl rfl (by kernel_rfl) (by kernel_rfl) (by kernel_rfl) (fun _ _ _ h => h) (Or.inl ⟨rfl, fun w' hSw => by go_simp⟩) hS0 ?_
    simp only [Act.put, List.setIfInBounds_toArray, List.set_cons_zero, List.set_cons_succ]
    refine wpAnyH_takeD (i := 22) (v := (.int .i64 (pBlk bytes : Nat))) (some 44) rfl rfl (by kernel_rfl) (by kernel_rfl) (by kernel_rfl) (fun _ _ _ h => h) (Or.inl ⟨rfl, fun w' hSw => by have s1 := hSw.2.2.1; clear hSw; go_simp⟩) hS0 ?_
    simp only [Act.put, List.setIfInBounds_toArray, List.set_cons_zero, List.set_cons_succ]
    refine wpAnyH_takeD (i := 23) (v := (.bool true)) (some 45) rfl rfl (by kernel_rfl) (by kernel_rfl) (by kernel_rfl) (fun _ _ _ h => h) (Or.inl ⟨rfl, fun w' hSw => by clear hSw; go_simp⟩) hS0 ?_
    simp only [Act.put, List.setIfInBounds_toArray, List.set_cons_zero, List.set_cons_succ]
    refine wpAnyH_takeD (i := 24) (v := (.bool true)) (some 46) rfl rfl (by kernel_rfl) (by kernel_rfl) (by kernel_rfl) (fun _ _ _ h => h) (Or.inl ⟨rfl, fun w' hSw => by go_simp⟩) hS0 ?_
    simp only [Act.put, List.setIfInBounds_toArray, List.set_cons_zero, List.set_cons_succ]
    refine wpAnyH_takeD (i := 25) (v := undef) (some 47) rfl rfl (by kernel_rfl) (by kernel_rfl) (by kernel_rfl) (fun _ _ _ h => h) (Or.inr ⟨rfl, rfl⟩) hS0 ?_
    simp only [Act.put, List.setIfInBounds_toArray, List.set_cons_zero, List.set_cons_succ]
    refine wpAnyH_takeD (i := 26) (v := undef) (some 48) rfl rfl (by kernel_rfl) (by kernel_rfl) (by kernel_rfl) (fun _ _ _ h => h) (Or.inr ⟨rfl, rfl⟩) hS0 ?_
    simp only [Act.put, List.setIfInBounds_toArray, List.set_cons_zero, List.set_cons_succ]
    refine wpAnyH_takeD (i := 27) (v := undef) (some 49) rfl rfl (by kernel_rfl) (by kernel_rfl) (by kernel_rfl) (fun _ _ _ h => h) (Or.inr ⟨rfl, rfl⟩) hS0 ?_
    simp only [Act.put, List.setIfInBounds_toArray, List.set_cons_zero, List.set_cons_succ]
    refine wpAnyH_takeD (i := 28) (v := undef) (some 50) rfl rfl (by kernel_rfl) (by kernel_rfl) (by kernel_rfl) (fun _ _ _ h => h) (Or.inr ⟨rfl, rfl⟩) hS0 ?_
    simp only [Act.put, List.setIfInBounds_toArray, List.set_cons_zero, List.set_cons_succ]
    refine wpAnyH_takeD (i := 29) (v := (.bool true)) (some 51) rfl rfl (by kernel_rfl) (by kernel_rfl) (by kernel_rfl) (fun _ _ _ h => h) (Or.inl ⟨rfl, fun w' hSw => by go_simp⟩) hS0 ?_
    simp only [Act.put, List.setIfInBounds_toArray, List.set_cons_zero, List.set_cons_succ]
    refine wpAnyH_takeD (i := 30) (v := (.bool true)) (some 52) rfl rfl (by kernel_rfl) (by kernel_rfl) (by kernel_rfl) (fun _ _ _ h => h) (Or.inl ⟨rfl, fun w' hSw => by go_simp⟩) hS0 ?_
    simp only [Act.put, List.setIfInBounds_toArray, List.set_cons_zero, List.set_cons_succ]
    refine wpAnyH_one (i := 31) (by kernel_rfl) rfl rfl ?_
    refine wp_store_sz 149 (.tmp 4) (.tmp 22) rfl w.heap.size 0 (headV slot (pGen bytes) (pBlk bytes) (pRgen bytes)).toList rfl rfl 149 (headV 0 0 0 0).toList (HB4.out.drew.drewN k) (Nat.le_refl _) size_head (headV_one _ _ _ _) ?_
    intro w3 hb3 hg3 hs3
    refine ⟨hS3 hg3, ?_⟩
    change wpAnyH _ _ _ _ _ _ _ (Act.put _ none undef) _
    simp only [Act.put]
    refine wpAnyH_val (i := 32) (w' := w3) (v := (.bool true)) (some 5) (by kernel_rfl) rfl rfl rfl (by go_simp) (hS3 hg3) ?_
    simp only [Act.put, List.setIfInBounds_toArray, List.set_cons_zero, List.set_cons_succ]
    refine wpAnyH_done (by kernel_rfl) ?_ _
    go_wp2
    have hb3' : Blk w3 w.heap.size 149 (headV slot (pGen bytes) (pBlk bytes) (pRgen bytes)) := by rw [spl_all (L := (headV 0 0 0 0).toList) (cs := (headV slot (pGen bytes) (pBlk bytes) (pRgen bytes)).toList) rfl] at hb3; exact hb3
    have p0 := cellOf hb3' 0 rfl
    have p1 := cellOf hb3' 1 rfl
    have p2 := cellOf hb3' 2 rfl
    have p3 := cellOf hb3' 3 rfl
    exact bodyPost_ret (v := .tuple #[.agg (headV slot (pGen bytes) (pBlk bytes) (pRgen bytes)), (.bool true)]) (by simp [results, Tryz.results171, go_sem, p0, p1, p2, p3]; rfl) rfl ⟨rfl, (below_drewN HBEL.out.drew k).grown hg3 HBEL.out.size fun g' e => by injection e with e; omega⟩
set_option maxRecDepth 100000 in
set_option maxHeartbeats 1000000 in
theorem parse_r (slot n c : Nat) (A : Option Addr) (bytes : List UInt8) (w : World) (h : SlU w A n c bytes) (hn : 32 ≤ n) (hc : 33 ≤ c) (hn2 : n ≤ 1000) (hc2 : c ≤ 1000) (hs : sealedN (bytes.take 32) = true) (hm : pMagic bytes = 827479123) (hg : 0 < pGen bytes) (hg2 : pGen bytes < 1073741824) (hb : ¬ 0 < pBlk bytes) (hr : pRgen bytes = 0) :
    Calls Tryz.prog 171 #[.int .i64 slot, .slice A n c] w fun e w' => e = .returned (.tuple #[.agg (headV slot (pGen bytes) (pBlk bytes) (pRgen bytes)), .bool true]) ∧ Below w.heap.size w w' := by
  obtain ⟨g, o, cur, rfl, hgb⟩ := h.some_ (by omega)
  have h32 := h.headOf 32 hn
  have t4 := h32.tail 4 (by omega) (by omega)
  have t8 := h32.tail 8 (by omega) (by omega)
  have t12 := h32.tail 12 (by omega) (by omega)
  have t16 := h32.tail 16 (by omega) (by omega)
  have hA : ∀ k, 0 < k → (some (⟨g, o, none⟩ : Addr)).map (·.add k) = some ⟨g, o + k, none⟩ := fun k hk => by simp only [Option.map_some, Addr.add]; rw [if_neg (by omega)]
  rw [hA _ (by omega)] at t4 t8 t12 t16
  have G4 := hide (fun W (hb : Below w.heap.size w W) => dget32_any (some ⟨g, o + 4, none⟩) 28 (c - 4) _ W (t4.below hb) (by omega) (by omega))
  have G8 := hide (fun W (hb : Below w.heap.size w W) => dget32_any (some ⟨g, o + 8, none⟩) 24 (c - 8) _ W (t8.below hb) (by omega) (by omega))
  have G12 := hide (fun W (hb : Below w.heap.size w W) => dget32_any (some ⟨g, o + 12, none⟩) 20 (c - 12) _ W (t12.below hb) (by omega) (by omega))
  have G16 := hide (fun W (hb : Below w.heap.size w W) => dget32_any (some ⟨g, o + 16, none⟩) 16 (c - 16) _ W (t16.below hb) (by omega) (by omega))
  have GS := hide (fun W (hb : Below w.heap.size w W) => sealed_any (some ⟨g, o, none⟩) 32 c _ W (h32.below hb) (by omega) (by omega))
  rw [hs] at GS
  have he : headV slot (pGen bytes) (pBlk bytes) (pRgen bytes) = #[.int .i64 slot, .int .u32 (get4 (List.drop 8 (List.take 32 bytes)) : Nat), .int .i64 (IntKind.i64.wrap (get4 (List.drop 12 (List.take 32 bytes)) : Nat)), .int .u32 (get4 (List.drop 16 (List.take 32 bytes)) : Nat)] := by
    have hw : IntKind.i64.wrap ((get4 (List.drop 12 (List.take 32 bytes)) : Nat) : Int) = ((get4 (List.drop 12 (List.take 32 bytes)) : Nat) : Int) := by
      have := get4_lt (List.drop 12 (List.take 32 bytes))
      rw [IntKind.wrap_i64]; omega
    rw [hw]
    rfl
  have HE := hide he
  clear he
  have q4 : ¬ c = 4 := by omega
  have q8 : ¬ c = 8 := by omega
  have q12 : ¬ c = 12 := by omega
  have q16 : ¬ c = 16 := by omega
  have r1 : (32 : Int) ≤ n := by omega
  have r2 : (n : Int) ≤ c := by have := h.2.1; omega
  have r3 : (32 : Int) ≤ c := by omega
  clear h h32 t4 t8 t12 t16 hA
  go_enter Tryz.func171, Tryz.ntmps171
  go_upto_region 2 with fail
  go_cut [6] (fun s6 wx => s6 = .pointer (some ⟨w.heap.size + 1, 0, none⟩) ∧ Blk wx (w.heap.size + 1) 149 (headV slot (pGen bytes) (pBlk bytes) (pRgen bytes)) ∧ Blk wx w.heap.size 149 (headV 0 0 0 0) ∧ Below w.heap.size w wx)
  case first =>
    go_wp2_with fail
    go_region_held3 (fun _ => True) (trivial) (first | (go_at_call 193; (with_reducible refine Calls.mono (G8.out _ ?_) ?_); (· first | exact ((Below.refl _ _).alloc (Nat.le_refl _) _).drew | exact (((Below.refl _ _).alloc (Nat.le_refl _) _).alloc (by simp) _).drew | exact (((Below.refl _ _).alloc (Nat.le_refl _) _).drew.alloc (by simp) _)); rintro e w' ⟨rfl, rfl⟩) | (go_at_call 193; (with_reducible refine Calls.mono (G12.out _ ?_) ?_); (· first | exact ((Below.refl _ _).alloc (Nat.le_refl _) _).drew | exact (((Below.refl _ _).alloc (Nat.le_refl _) _).alloc (by simp) _).drew | exact (((Below.refl _ _).alloc (Nat.le_refl _) _).drew.alloc (by simp) _)); rintro e w' ⟨rfl, rfl⟩) | (go_at_call 193; (with_reducible refine Calls.mono (G16.out _ ?_) ?_); (· first | exact ((Below.refl _ _).alloc (Nat.le_refl _) _).drew | exact (((Below.refl _ _).alloc (Nat.le_refl _) _).alloc (by simp) _).drew | exact (((Below.refl _ _).alloc (Nat.le_refl _) _).drew.alloc (by simp) _)); rintro e w' ⟨rfl, rfl⟩))
    all_goals
      go_wp2
      go_meet
      refine ⟨rfl, ?_, ?_, ?_⟩
      · rw [HE.out]; exact (Blk.new2 w _ _ _).drew
      · exact ((Blk.new w _ _).alloc _).drew
      · exact (((Below.refl _ _).alloc (Nat.le_refl _) _).alloc (by simp) _).drew
  case rest =>
    obtain ⟨rfl, hb6, hb4, hbel⟩ := hcut
    have c0 : wc.cell? ⟨w.heap.size + 1, 0, none⟩ = some (.int .i64 slot) := cellOf hb6 0 rfl
    have c1 : wc.cell? ⟨w.heap.size + 1, 1, none⟩ = some (.int .u32 (pGen bytes : Nat)) := cellOf hb6 1 rfl
    have c2 : wc.cell? ⟨w.heap.size + 1, 2, none⟩ = some (.int .i64 (pBlk bytes : Nat)) := cellOf hb6 2 rfl
    have c3 : wc.cell? ⟨w.heap.size + 1, 3, none⟩ = some (.int .u32 (pRgen bytes : Nat)) := cellOf hb6 3 rfl
    have d0 : wc.cell? ⟨w.heap.size, 0, none⟩ = some (.int .i64 0) := cellOf hb4 0 rfl
    have d1 : wc.cell? ⟨w.heap.size, 1, none⟩ = some (.int .u32 0) := cellOf hb4 1 rfl
    have d2 : wc.cell? ⟨w.heap.size, 2, none⟩ = some (.int .i64 0) := cellOf hb4 2 rfl
    have d3 : wc.cell? ⟨w.heap.size, 3, none⟩ = some (.int .u32 0) := cellOf hb4 3 rfl
    have f0 : wc.frozen? ⟨w.heap.size, 0, none⟩ = false := hb4.frozen 0
    have f1 : wc.frozen? ⟨w.heap.size, 1, none⟩ = false := hb4.frozen 1
    have f2 : wc.frozen? ⟨w.heap.size, 2, none⟩ = false := hb4.frozen 2
    have f3 : wc.frozen? ⟨w.heap.size, 3, none⟩ = false := hb4.frozen 3
    have e1 : ((get4 (List.drop 4 (List.take 32 bytes)) : Nat) : Int) = 827479123 := by have h := hm; unfold pMagic at h; omega
    have g1 : (0 : Int) < (pGen bytes : Nat) := by omega
    have g2 : ((pGen bytes : Nat) : Int) < 1073741824 := by omega
    have k1 : ((pBlk bytes : Nat) : Int) = 0 := by omega
    have k2 : ((pRgen bytes : Nat) : Int) = 0 := by omega
    have HB4 := hide hb4
    have HBEL := hide hbel
    have HM := hide hm
    have HS0 : Hid (wc.drew.cell? ⟨w.heap.size + 1, 0, none⟩ = some (.int .i64 slot) ∧ wc.drew.cell? ⟨w.heap.size + 1, 1, none⟩ = some (.int .u32 (pGen bytes : Nat)) ∧ wc.drew.cell? ⟨w.heap.size + 1, 2, none⟩ = some (.int .i64 (pBlk bytes : Nat)) ∧ wc.drew.cell? ⟨w.heap.size + 1, 3, none⟩ = some (.int .u32 (pRgen bytes : Nat))) := ⟨c0, c1, c2, c3⟩
    have hz6 := hb6.lt
    have hS3 : ∀ {w3 : World} {k : Nat}, (wc.drew.drewN k).grownBy w3 (some w.heap.size) → w3.cell? ⟨w.heap.size + 1, 0, none⟩ = some (.int .i64 slot) ∧ w3.cell? ⟨w.heap.size + 1, 1, none⟩ = some (.int .u32 (pGen bytes : Nat)) ∧ w3.cell? ⟨w.heap.size + 1, 2, none⟩ = some (.int .i64 (pBlk bytes : Nat)) ∧ w3.cell? ⟨w.heap.size + 1, 3, none⟩ = some (.int .u32 (pRgen bytes : Nat)) := by
      intro w3 k hg
      have h := hg.block (w.heap.size + 1) hz6 (fun e => by injection e with e; omega)
      refine ⟨?_, ?_, ?_, ?_⟩ <;> rw [World.cell?_of_block h]
      · exact c0
      · exact c1
      · exact c2
      · exact c3
    clear hb4 hb6 hbel c0 c1 c2 c3 d0 d1 d2 d3 f0 f1 f2 f3
    go_wp2_with fail
    refine wp_region_held_drew (S := fun w' => w'.cell? ⟨w.heap.size + 1, 0, none⟩ = some (.int .i64 slot) ∧ w'.cell? ⟨w.heap.size + 1, 1, none⟩ = some (.int .u32 (pGen bytes : Nat)) ∧ w'.cell? ⟨w.heap.size + 1, 2, none⟩ = some (.int .i64 (pBlk bytes : Nat)) ∧ w'.cell? ⟨w.heap.size + 1, 3, none⟩ = some (.int .u32 (pRgen bytes : Nat))) (by kernel_rfl) HS0.out ?_
    intro hS0
    refine wpAnyH_takeD (i := 0) (v := (.agg #[.int .i64 slot, .int .u32 (pGen bytes : Nat), .int .i64 (pBlk bytes : Nat), .int .u32 (pRgen bytes : Nat)])) (some 22) rfl rfl (by kernel_rfl) (by kernel_rfl) (by kernel_rfl) (fun _ _ _ h => h) (Or.inl ⟨rfl, fun w' hSw => by obtain ⟨s0, s1, s2, s3⟩ := hSw; go_simp⟩) hS0 ?_
    simp only [Act.put, List.setIfInBounds_toArray, List.set_cons_zero, List.set_cons_succ]
    refine wpAnyH_takeD (i := 1) (v := (.slice (some ⟨g, o, none⟩) 32 c)) (some 23) rfl rfl (by kernel_rfl) (by kernel_rfl) (by kernel_rfl) (fun _ _ _ h => h) (Or.inl ⟨rfl, fun w' hSw => by go_simp⟩) hS0 ?_
    simp only [Act.put, List.setIfInBounds_toArray, List.set_cons_zero, List.set_cons_succ]
    refine wpAnyH_call (i := 2) (f := 194) (some 24) (by kernel_rfl) rfl rfl rfl (by go_simp) (GS.out _ HBEL.out.drew) (fun _ _ h => h) ?_
    rintro _ ⟨k, rfl⟩
    refine ⟨hS0, ?_⟩
    simp only [Act.put, List.setIfInBounds_toArray, List.set_cons_zero, List.set_cons_succ]
    refine wpAnyH_takeD (i := 3) (v := (.bool true)) (some 25) rfl rfl (by kernel_rfl) (by kernel_rfl) (by kernel_rfl) (fun _ _ _ h => h) (Or.inl ⟨rfl, fun w' hSw => by go_simp⟩) hS0 ?_
    simp only [Act.put, List.setIfInBounds_toArray, List.set_cons_zero, List.set_cons_succ]
    refine wpAnyH_takeD (i := 4) (v := (.slice (some ⟨g, o, none⟩) 32 c)) (some 26) rfl rfl (by kernel_rfl) (by kernel_rfl) (by kernel_rfl) (fun _ _ _ h => h) (Or.inl ⟨rfl, fun w' hSw => by go_simp⟩) hS0 ?_
    simp only [Act.put, List.setIfInBounds_toArray, List.set_cons_zero, List.set_cons_succ]
    refine wpAnyH_takeD (i := 5) (v := (.slice (some ⟨g, o + 4, none⟩) 28 (c - 4))) (some 27) rfl rfl (by kernel_rfl) (by kernel_rfl) (by kernel_rfl) (fun _ _ _ h => h) (Or.inl ⟨rfl, fun w' hSw => by go_simp⟩) hS0 ?_
    simp only [Act.put, List.setIfInBounds_toArray, List.set_cons_zero, List.set_cons_succ]
    refine wpAnyH_call (i := 6) (f := 193) (some 28) (by kernel_rfl) rfl rfl rfl (by go_simp) (G4.out _ (below_drewN HBEL.out.drew k)) (fun _ _ h => h) ?_
    rintro _ rfl
    refine ⟨hS0, ?_⟩
    simp only [Act.put, List.setIfInBounds_toArray, List.set_cons_zero, List.set_cons_succ]
    refine wpAnyH_takeD (i := 7) (v := (.bool true)) (some 29) rfl rfl (by kernel_rfl) (by kernel_rfl) (by kernel_rfl) (fun _ _ _ h => h) (Or.inl ⟨rfl, fun w' hSw => by go_simp⟩) hS0 ?_
    simp only [Act.put, List.setIfInBounds_toArray, List.set_cons_zero, List.set_cons_succ]
    refine wpAnyH_takeD (i := 8) (v := (.bool true)) (some 30) rfl rfl (by kernel_rfl) (by kernel_rfl) (by kernel_rfl) (fun _ _ _ h => h) (Or.inl ⟨rfl, fun w' hSw => by go_simp⟩) hS0 ?_
    simp only [Act.put, List.setIfInBounds_toArray, List.set_cons_zero, List.set_cons_succ]
    refine wpAnyH_takeD (i := 9) (v := (.bool true)) (some 31) rfl rfl (by kernel_rfl) (by kernel_rfl) (by kernel_rfl) (fun _ _ _ h => h) (Or.inl ⟨rfl, fun w' hSw => by go_simp⟩) hS0 ?_
    simp only [Act.put, List.setIfInBounds_toArray, List.set_cons_zero, List.set_cons_succ]
    refine wpAnyH_takeD (i := 10) (v := (.pointer (some ⟨w.heap.size + 1, 1, none⟩))) (some 32) rfl rfl (by kernel_rfl) (by kernel_rfl) (by kernel_rfl) (fun _ _ _ h => h) (Or.inl ⟨rfl, fun w' hSw => by go_simp⟩) hS0 ?_
    simp only [Act.put, List.setIfInBounds_toArray, List.set_cons_zero, List.set_cons_succ]
    refine wpAnyH_takeD (i := 11) (v := (.int .u32 (pGen bytes : Nat))) (some 33) rfl rfl (by kernel_rfl) (by kernel_rfl) (by kernel_rfl) (fun _ _ _ h => h) (Or.inl ⟨rfl, fun w' hSw => by have s1 := hSw.2.1; clear hSw; go_simp⟩) hS0 ?_
    simp only [Act.put, List.setIfInBounds_toArray, List.set_cons_zero, List.set_cons_succ]
    refine wpAnyH_takeD (i := 12) (v := (.bool true)) (some 34) rfl rfl (by kernel_rfl) (by kernel_rfl) (by kernel_rfl) (fun _ _ _ h => h) (Or.inl ⟨rfl, fun w' hSw => by clear hSw; go_simp⟩) hS0 ?_
    simp only [Act.put, List.setIfInBounds_toArray, List.set_cons_zero, List.set_cons_succ]
    refine wpAnyH_takeD (i := 13) (v := (.bool true)) (some 35) rfl rfl (by kernel_rfl) (by kernel_rfl) (by kernel_rfl) (fun _ _ _ h => h) (Or.inl ⟨rfl, fun w' hSw => by go_simp⟩) hS0 ?_
    simp only [Act.put, List.setIfInBounds_toArray, List.set_cons_zero, List.set_cons_succ]
    refine wpAnyH_takeD (i := 14) (v := (.bool true)) (some 36) rfl rfl (by kernel_rfl) (by kernel_rfl) (by kernel_rfl) (fun _ _ _ h => h) (Or.inl ⟨rfl, fun w' hSw => by go_simp⟩) hS0 ?_
    simp only [Act.put, List.setIfInBounds_toArray, List.set_cons_zero, List.set_cons_succ]
    refine wpAnyH_takeD (i := 15) (v := (.pointer (some ⟨w.heap.size + 1, 1, none⟩))) (some 37) rfl rfl (by kernel_rfl) (by kernel_rfl) (by kernel_rfl) (fun _ _ _ h => h) (Or.inl ⟨rfl, fun w' hSw => by go_simp⟩) hS0 ?_
    simp only [Act.put, List.setIfInBounds_toArray, List.set_cons_zero, List.set_cons_succ]
    refine wpAnyH_takeD (i := 16) (v := (.int .u32 (pGen bytes : Nat))) (some 38) rfl rfl (by kernel_rfl) (by kernel_rfl) (by kernel_rfl) (fun _ _ _ h => h) (Or.inl ⟨rfl, fun w' hSw => by have s1 := hSw.2.1; clear hSw; go_simp⟩) hS0 ?_
    simp only [Act.put, List.setIfInBounds_toArray, List.set_cons_zero, List.set_cons_succ]
    refine wpAnyH_takeD (i := 17) (v := (.bool true)) (some 39) rfl rfl (by kernel_rfl) (by kernel_rfl) (by kernel_rfl) (fun _ _ _ h => h) (Or.inl ⟨rfl, fun w' hSw => by clear hSw; go_simp⟩) hS0 ?_
    simp only [Act.put, List.setIfInBounds_toArray, List.set_cons_zero, List.set_cons_succ]
    refine wpAnyH_takeD (i := 18) (v := (.bool true)) (some 40) rfl rfl (by kernel_rfl) (by kernel_rfl) (by kernel_rfl) (fun _ _ _ h => h) (Or.inl ⟨rfl, fun w' hSw => by go_simp⟩) hS0 ?_
    simp only [Act.put, List.setIfInBounds_toArray, List.set_cons_zero, List.set_cons_succ]
    refine wpAnyH_takeD (i := 19) (v := (.bool true)) (some 41) rfl rfl (by kernel_rfl) (by kernel_rfl) (by kernel_rfl) (fun _ _ _ h => h) (Or.inl ⟨rfl, fun w' hSw => by go_simp⟩) hS0 ?_
    simp only [Act.put, List.setIfInBounds_toArray, List.set_cons_zero, List.set_cons_succ]
    refine wpAnyH_takeD (i := 20) (v := (.pointer (some ⟨w.heap.size + 1, 2, none⟩))) (some 42) rfl rfl (by kernel_rfl) (by kernel_rfl) (by kernel_rfl) (fun _ _ _ h => h) (Or.inl ⟨rfl, fun w' hSw => by go_simp⟩) hS0 ?_
    simp only [Act.put, List.setIfInBounds_toArray, List.set_cons_zero, List.set_cons_succ]
    refine wpAnyH_takeD (i := 21) (v := (.pointer (some ⟨w.heap.size + 1, 2, none⟩))) (some 43) rfl rfl (by kernel_rfl) (by kernel_rfl) (by kernel_rfl) (fun _ _ _ h => h) (Or.inl ⟨rfl, fun w' hSw => by go_simp⟩) hS0 ?_
    simp only [Act.put, List.setIfInBounds_toArray, List.set_cons_zero, List.set_cons_succ]
    refine wpAnyH_takeD (i := 22) (v := (.int .i64 (pBlk bytes : Nat))) (some 44) rfl rfl (by kernel_rfl) (by kernel_rfl) (by kernel_rfl) (fun _ _ _ h => h) (Or.inl ⟨rfl, fun w' hSw => by have s1 := hSw.2.2.1; clear hSw; go_simp⟩) hS0 ?_
    simp only [Act.put, List.setIfInBounds_toArray, List.set_cons_zero, List.set_cons_succ]
    refine wpAnyH_takeD (i := 23) (v := (.bool false)) (some 45) rfl rfl (by kernel_rfl) (by kernel_rfl) (by kernel_rfl) (fun _ _ _ h => h) (Or.inl ⟨rfl, fun w' hSw => by clear hSw; go_simp⟩) hS0 ?_
    simp only [Act.put, List.setIfInBounds_toArray, List.set_cons_zero, List.set_cons_succ]
    refine wpAnyH_takeD (i := 24) (v := (.bool false)) (some 46) rfl rfl (by kernel_rfl) (by kernel_rfl) (by kernel_rfl) (fun _ _ _ h => h) (Or.inl ⟨rfl, fun w' hSw => by go_simp⟩) hS0 ?_
    simp only [Act.put, List.setIfInBounds_toArray, List.set_cons_zero, List.set_cons_succ]
    refine wpAnyH_takeD (i := 25) (v := (.pointer (some ⟨w.heap.size + 1, 2, none⟩))) (some 47) rfl rfl (by kernel_rfl) (by kernel_rfl) (by kernel_rfl) (fun _ _ _ h => h) (Or.inl ⟨rfl, fun w' hSw => by go_simp⟩) hS0 ?_
    simp only [Act.put, List.setIfInBounds_toArray, List.set_cons_zero, List.set_cons_succ]
    refine wpAnyH_takeD (i := 26) (v := (.pointer (some ⟨w.heap.size + 1, 3, none⟩))) (some 48) rfl rfl (by kernel_rfl) (by kernel_rfl) (by kernel_rfl) (fun _ _ _ h => h) (Or.inl ⟨rfl, fun w' hSw => by go_simp⟩) hS0 ?_
    simp only [Act.put, List.setIfInBounds_toArray, List.set_cons_zero, List.set_cons_succ]
    refine wpAnyH_takeD (i := 27) (v := (.int .u32 (pRgen bytes : Nat))) (some 49) rfl rfl (by kernel_rfl) (by kernel_rfl) (by kernel_rfl) (fun _ _ _ h => h) (Or.inl ⟨rfl, fun w' hSw => by have s1 := hSw.2.2.2; clear hSw; go_simp⟩) hS0 ?_
    simp only [Act.put, List.setIfInBounds_toArray, List.set_cons_zero, List.set_cons_succ]
    refine wpAnyH_takeD (i := 28) (v := (.bool true)) (some 50) rfl rfl (by kernel_rfl) (by kernel_rfl) (by kernel_rfl) (fun _ _ _ h => h) (Or.inl ⟨rfl, fun w' hSw => by clear hSw; go_simp⟩) hS0 ?_
    simp only [Act.put, List.setIfInBounds_toArray, List.set_cons_zero, List.set_cons_succ]
    refine wpAnyH_takeD (i := 29) (v := (.bool true)) (some 51) rfl rfl (by kernel_rfl) (by kernel_rfl) (by kernel_rfl) (fun _ _ _ h => h) (Or.inl ⟨rfl, fun w' hSw => by go_simp⟩) hS0 ?_
    simp only [Act.put, List.setIfInBounds_toArray, List.set_cons_zero, List.set_cons_succ]
    refine wpAnyH_takeD (i := 30) (v := (.bool true)) (some 52) rfl rfl (by kernel_rfl) (by kernel_rfl) (by kernel_rfl) (fun _ _ _ h => h) (Or.inl ⟨rfl, fun w' hSw => by go_simp⟩) hS0 ?_
    simp only [Act.put, List.setIfInBounds_toArray, List.set_cons_zero, List.set_cons_succ]
    refine wpAnyH_one (i := 31) (by kernel_rfl) rfl rfl ?_
    refine wp_store_sz 149 (.tmp 4) (.tmp 22) rfl w.heap.size 0 (headV slot (pGen bytes) (pBlk bytes) (pRgen bytes)).toList rfl rfl 149 (headV 0 0 0 0).toList (HB4.out.drew.drewN k) (Nat.le_refl _) size_head (headV_one _ _ _ _) ?_
    intro w3 hb3 hg3 hs3
    refine ⟨hS3 hg3, ?_⟩
    change wpAnyH _ _ _ _ _ _ _ (Act.put _ none undef) _
    simp only [Act.put]
    refine wpAnyH_val (i := 32) (w' := w3) (v := (.bool true)) (some 5) (by kernel_rfl) rfl rfl rfl (by go_simp) (hS3 hg3) ?_
    simp only [Act.put, List.setIfInBounds_toArray, List.set_cons_zero, List.set_cons_succ]
    refine wpAnyH_done (by kernel_rfl) ?_ _
    go_wp2
    have hb3' : Blk w3 w.heap.size 149 (headV slot (pGen bytes) (pBlk bytes) (pRgen bytes)) := by rw [spl_all (L := (headV 0 0 0 0).toList) (cs := (headV slot (pGen bytes) (pBlk bytes) (pRgen bytes)).toList) rfl] at hb3; exact hb3
    have p0 := cellOf hb3' 0 rfl
    have p1 := cellOf hb3' 1 rfl
    have p2 := cellOf hb3' 2 rfl
    have p3 := cellOf hb3' 3 rfl
    exact bodyPost_ret (v := .tuple #[.agg (headV slot (pGen bytes) (pBlk bytes) (pRgen bytes)), (.bool true)]) (by simp [results, Tryz.results171, go_sem, p0, p1, p2, p3]; rfl) rfl ⟨rfl, (below_drewN HBEL.out.drew k).grown hg3 HBEL.out.size fun g' e => by injection e with e; omega⟩
set_option maxRecDepth 100000 in
set_option maxHeartbeats 1000000 in
theorem parse_x (slot n c : Nat) (A : Option Addr) (bytes : List UInt8) (w : World) (h : SlU w A n c bytes) (hn : 32 ≤ n) (hc : 33 ≤ c) (hn2 : n ≤ 1000) (hc2 : c ≤ 1000) (hs : sealedN (bytes.take 32) = true) (hm : pMagic bytes = 827479123) (hg : 0 < pGen bytes) (hg2 : pGen bytes < 1073741824) (hb : ¬ 0 < pBlk bytes) (hr : ¬ pRgen bytes = 0) :
    Calls Tryz.prog 171 #[.int .i64 slot, .slice A n c] w fun e w' => e = .returned (.tuple #[.agg (headV slot (pGen bytes) (pBlk bytes) (pRgen bytes)), .bool false]) ∧ Below w.heap.size w w' := by
  obtain ⟨g, o, cur, rfl, hgb⟩ := h.some_ (by omega)
  have h32 := h.headOf 32 hn
  have t4 := h32.tail 4 (by omega) (by omega)
  have t8 := h32.tail 8 (by omega) (by omega)
  have t12 := h32.tail 12 (by omega) (by omega)
  have t16 := h32.tail 16 (by omega) (by omega)
  have hA : ∀ k, 0 < k → (some (⟨g, o, none⟩ : Addr)).map (·.add k) = some ⟨g, o + k, none⟩ := fun k hk => by simp only [Option.map_some, Addr.add]; rw [if_neg (by omega)]
  rw [hA _ (by omega)] at t4 t8 t12 t16
  have G4 := hide (fun W (hb : Below w.heap.size w W) => dget32_any (some ⟨g, o + 4, none⟩) 28 (c - 4) _ W (t4.below hb) (by omega) (by omega))
  have G8 := hide (fun W (hb : Below w.heap.size w W) => dget32_any (some ⟨g, o + 8, none⟩) 24 (c - 8) _ W (t8.below hb) (by omega) (by omega))
  have G12 := hide (fun W (hb : Below w.heap.size w W) => dget32_any (some ⟨g, o + 12, none⟩) 20 (c - 12) _ W (t12.below hb) (by omega) (by omega))
  have G16 := hide (fun W (hb : Below w.heap.size w W) => dget32_any (some ⟨g, o + 16, none⟩) 16 (c - 16) _ W (t16.below hb) (by omega) (by omega))
  have GS := hide (fun W (hb : Below w.heap.size w W) => sealed_any (some ⟨g, o, none⟩) 32 c _ W (h32.below hb) (by omega) (by omega))
  rw [hs] at GS
  have he : headV slot (pGen bytes) (pBlk bytes) (pRgen bytes) = #[.int .i64 slot, .int .u32 (get4 (List.drop 8 (List.take 32 bytes)) : Nat), .int .i64 (IntKind.i64.wrap (get4 (List.drop 12 (List.take 32 bytes)) : Nat)), .int .u32 (get4 (List.drop 16 (List.take 32 bytes)) : Nat)] := by
    have hw : IntKind.i64.wrap ((get4 (List.drop 12 (List.take 32 bytes)) : Nat) : Int) = ((get4 (List.drop 12 (List.take 32 bytes)) : Nat) : Int) := by
      have := get4_lt (List.drop 12 (List.take 32 bytes))
      rw [IntKind.wrap_i64]; omega
    rw [hw]
    rfl
  have HE := hide he
  clear he
  have q4 : ¬ c = 4 := by omega
  have q8 : ¬ c = 8 := by omega
  have q12 : ¬ c = 12 := by omega
  have q16 : ¬ c = 16 := by omega
  have r1 : (32 : Int) ≤ n := by omega
  have r2 : (n : Int) ≤ c := by have := h.2.1; omega
  have r3 : (32 : Int) ≤ c := by omega
  clear h h32 t4 t8 t12 t16 hA
  go_enter Tryz.func171, Tryz.ntmps171
  go_upto_region 2 with fail
  go_cut [6] (fun s6 wx => s6 = .pointer (some ⟨w.heap.size + 1, 0, none⟩) ∧ Blk wx (w.heap.size + 1) 149 (headV slot (pGen bytes) (pBlk bytes) (pRgen bytes)) ∧ Blk wx w.heap.size 149 (headV 0 0 0 0) ∧ Below w.heap.size w wx)
  case first =>
    go_wp2_with fail
    go_region_held3 (fun _ => True) (trivial) (first | (go_at_call 193; (with_reducible refine Calls.mono (G8.out _ ?_) ?_); (· first | exact ((Below.refl _ _).alloc (Nat.le_refl _) _).drew | exact (((Below.refl _ _).alloc (Nat.le_refl _) _).alloc (by simp) _).drew | exact (((Below.refl _ _).alloc (Nat.le_refl _) _).drew.alloc (by simp) _)); rintro e w' ⟨rfl, rfl⟩) | (go_at_call 193; (with_reducible refine Calls.mono (G12.out _ ?_) ?_); (· first | exact ((Below.refl _ _).alloc (Nat.le_refl _) _).drew | exact (((Below.refl _ _).alloc (Nat.le_refl _) _).alloc (by simp) _).drew | exact (((Below.refl _ _).alloc (Nat.le_refl _) _).drew.alloc (by simp) _)); rintro e w' ⟨rfl, rfl⟩) | (go_at_call 193; (with_reducible refine Calls.mono (G16.out _ ?_) ?_); (· first | exact ((Below.refl _ _).alloc (Nat.le_refl _) _).drew | exact (((Below.refl _ _).alloc (Nat.le_refl _) _).alloc (by simp) _).drew | exact (((Below.refl _ _).alloc (Nat.le_refl _) _).drew.alloc (by simp) _)); rintro e w' ⟨rfl, rfl⟩))
    all_goals
      go_wp2
      go_meet
      refine ⟨rfl, ?_, ?_, ?_⟩
      · rw [HE.out]; exact (Blk.new2 w _ _ _).drew
      · exact ((Blk.new w _ _).alloc _).drew
      · exact (((Below.refl _ _).alloc (Nat.le_refl _) _).alloc (by simp) _).drew
  case rest =>
    obtain ⟨rfl, hb6, hb4, hbel⟩ := hcut
    have c0 : wc.cell? ⟨w.heap.size + 1, 0, none⟩ = some (.int .i64 slot) := cellOf hb6 0 rfl
    have c1 : wc.cell? ⟨w.heap.size + 1, 1, none⟩ = some (.int .u32 (pGen bytes : Nat)) := cellOf hb6 1 rfl
    have c2 : wc.cell? ⟨w.heap.size + 1, 2, none⟩ = some (.int .i64 (pBlk bytes : Nat)) := cellOf hb6 2 rfl
    have c3 : wc.cell? ⟨w.heap.size + 1, 3, none⟩ = some (.int .u32 (pRgen bytes : Nat)) := cellOf hb6 3 rfl
    have d0 : wc.cell? ⟨w.heap.size, 0, none⟩ = some (.int .i64 0) := cellOf hb4 0 rfl
    have d1 : wc.cell? ⟨w.heap.size, 1, none⟩ = some (.int .u32 0) := cellOf hb4 1 rfl
    have d2 : wc.cell? ⟨w.heap.size, 2, none⟩ = some (.int .i64 0) := cellOf hb4 2 rfl
    have d3 : wc.cell? ⟨w.heap.size, 3, none⟩ = some (.int .u32 0) := cellOf hb4 3 rfl
    have f0 : wc.frozen? ⟨w.heap.size, 0, none⟩ = false := hb4.frozen 0
    have f1 : wc.frozen? ⟨w.heap.size, 1, none⟩ = false := hb4.frozen 1
    have f2 : wc.frozen? ⟨w.heap.size, 2, none⟩ = false := hb4.frozen 2
    have f3 : wc.frozen? ⟨w.heap.size, 3, none⟩ = false := hb4.frozen 3
    have e1 : ((get4 (List.drop 4 (List.take 32 bytes)) : Nat) : Int) = 827479123 := by have h := hm; unfold pMagic at h; omega
    have g1 : (0 : Int) < (pGen bytes : Nat) := by omega
    have g2 : ((pGen bytes : Nat) : Int) < 1073741824 := by omega
    have k1 : ((pBlk bytes : Nat) : Int) = 0 := by omega
    have k2 : ¬ ((pRgen bytes : Nat) : Int) = 0 := by omega
    have HB4 := hide hb4
    have HBEL := hide hbel
    have HM := hide hm
    have HS0 : Hid (wc.drew.cell? ⟨w.heap.size + 1, 0, none⟩ = some (.int .i64 slot) ∧ wc.drew.cell? ⟨w.heap.size + 1, 1, none⟩ = some (.int .u32 (pGen bytes : Nat)) ∧ wc.drew.cell? ⟨w.heap.size + 1, 2, none⟩ = some (.int .i64 (pBlk bytes : Nat)) ∧ wc.drew.cell? ⟨w.heap.size + 1, 3, none⟩ = some (.int .u32 (pRgen bytes : Nat))) := ⟨c0, c1, c2, c3⟩
    have hz6 := hb6.lt
    have hS3 : ∀ {w3 : World} {k : Nat}, (wc.drew.drewN k).grownBy w3 (some w.heap.size) → w3.cell? ⟨w.heap.size + 1, 0, none⟩ = some (.int .i64 slot) ∧ w3.cell? ⟨w.heap.size + 1, 1, none⟩ = some (.int .u32 (pGen bytes : Nat)) ∧ w3.cell? ⟨w.heap.size + 1, 2, none⟩ = some (.int .i64 (pBlk bytes : Nat)) ∧ w3.cell? ⟨w.heap.size + 1, 3, none⟩ = some (.int .u32 (pRgen bytes : Nat)) := by
      intro w3 k hg
      have h := hg.block (w.heap.size + 1) hz6 (fun e => by injection e with e; omega)
      refine ⟨?_, ?_, ?_, ?_⟩ <;> rw [World.cell?_of_block h]
      · exact c0
      · exact c1
      · exact c2
      · exact c3
    clear hb4 hb6 hbel c0 c1 c2 c3 d0 d1 d2 d3 f0 f1 f2 f3
    go_wp2_with fail
    refine wp_region_held_drew (S := fun w' => w'.cell? ⟨w.heap.size + 1, 0, none⟩ = some (.int .i64 slot) ∧ w'.cell? ⟨w.heap.size + 1, 1, none⟩ = some (.int .u32 (pGen bytes : Nat)) ∧ w'.cell? ⟨w.heap.size + 1, 2, none⟩ = some (.int .i64 (pBlk bytes : Nat)) ∧ w'.cell? ⟨w.heap.size + 1, 3, none⟩ = some (.int .u32 (pRgen bytes : Nat))) (by kernel_rfl) HS0.out ?_
    intro hS0
    refine wpAnyH_takeD (i := 0) (v := (.agg #[.int .i64 slot, .int .u32 (pGen bytes : Nat), .int .i64 (pBlk bytes : Nat), .int .u32 (pRgen bytes : Nat)])) (some 22) rfl rfl (by kernel_rfl) (by kernel_rfl) (by kernel_rfl) (fun _ _ _ h => h) (Or.inl ⟨rfl, fun w' hSw => by obtain ⟨s0, s1, s2, s3⟩ := hSw; go_simp⟩) hS0 ?_
    simp only [Act.put, List.setIfInBounds_toArray, List.set_cons_zero, List.set_cons_succ]
    refine wpAnyH_takeD (i := 1) (v := (.slice (some ⟨g, o, none⟩) 32 c)) (some 23) rfl rfl (by kernel_rfl) (by kernel_rfl) (by kernel_rfl) (fun _ _ _ h => h) (Or.inl ⟨rfl, fun w' hSw => by go_simp⟩) hS0 ?_
    simp only [Act.put, List.setIfInBounds_toArray, List.set_cons_zero, List.set_cons_succ]
    refine wpAnyH_call (i := 2) (f := 194) (some 24) (by kernel_rfl) rfl rfl rfl (by go_simp) (GS.out _ HBEL.out.drew) (fun _ _ h => h) ?_
    rintro _ ⟨k, rfl⟩
    refine ⟨hS0, ?_⟩
    simp only [Act.put, List.setIfInBounds_toArray, List.set_cons_zero, List.set_cons_succ]
    refine wpAnyH_takeD (i := 3) (v := (.bool true)) (some 25) rfl rfl (by kernel_rfl) (by kernel_rfl) (by kernel_rfl) (fun _ _ _ h => h) (Or.inl ⟨rfl, fun w' hSw => by go_simp⟩) hS0 ?_
    simp only [Act.put, List.setIfInBounds_toArray, List.set_cons_zero, List.set_cons_succ]
    refine wpAnyH_takeD (i := 4) (v := (.slice (some ⟨g, o, none⟩) 32 c)) (some 26) rfl rfl (by kernel_rfl) (by kernel_rfl) (by kernel_rfl) (fun _ _ _ h => h) (Or.inl ⟨rfl, fun w' hSw => by go_simp⟩) hS0 ?_
    simp only [Act.put, List.setIfInBounds_toArray, List.set_cons_zero, List.set_cons_succ]
    refine wpAnyH_takeD (i := 5) (v := (.slice (some ⟨g, o + 4, none⟩) 28 (c - 4))) (some 27) rfl rfl (by kernel_rfl) (by kernel_rfl) (by kernel_rfl) (fun _ _ _ h => h) (Or.inl ⟨rfl, fun w' hSw => by go_simp⟩) hS0 ?_
    simp only [Act.put, List.setIfInBounds_toArray, List.set_cons_zero, List.set_cons_succ]
    refine wpAnyH_call (i := 6) (f := 193) (some 28) (by kernel_rfl) rfl rfl rfl (by go_simp) (G4.out _ (below_drewN HBEL.out.drew k)) (fun _ _ h => h) ?_
    rintro _ rfl
    refine ⟨hS0, ?_⟩
    simp only [Act.put, List.setIfInBounds_toArray, List.set_cons_zero, List.set_cons_succ]
    refine wpAnyH_takeD (i := 7) (v := (.bool true)) (some 29) rfl rfl (by kernel_rfl) (by kernel_rfl) (by kernel_rfl) (fun _ _ _ h => h) (Or.inl ⟨rfl, fun w' hSw => by go_simp⟩) hS0 ?_
    simp only [Act.put, List.setIfInBounds_toArray, List.set_cons_zero, List.set_cons_succ]
    refine wpAnyH_takeD (i := 8) (v := (.bool true)) (some 30) rfl rfl (by kernel_rfl) (by kernel_rfl) (by kernel_rfl) (fun _ _ _ h => h) (Or.inl ⟨rfl, fun w' hSw => by go_simp⟩) hS0 ?_
    simp only [Act.put, List.setIfInBounds_toArray, List.set_cons_zero, List.set_cons_succ]
    refine wpAnyH_takeD (i := 9) (v := (.bool true)) (some 31) rfl rfl (by kernel_rfl) (by kernel_rfl) (by kernel_rfl) (fun _ _ _ h => h) (Or.inl ⟨rfl, fun w' hSw => by go_simp⟩) hS0 ?_
    simp only [Act.put, List.setIfInBounds_toArray, List.set_cons_zero, List.set_cons_succ]
    refine wpAnyH_takeD (i := 10) (v := (.pointer (some ⟨w.heap.size + 1, 1, none⟩))) (some 32) rfl rfl (by kernel_rfl) (by kernel_rfl) (by kernel_rfl) (fun _ _ _ h => h) (Or.inl ⟨rfl, fun w' hSw => by go_simp⟩) hS0 ?_
    simp only [Act.put, List.setIfInBounds_toArray, List.set_cons_zero, List.set_cons_succ]
    refine wpAnyH_takeD (i := 11) (v := (.int .u32 (pGen bytes : Nat))) (some 33) rfl rfl (by kernel_rfl) (by kernel_rfl) (by kernel_rfl) (fun _ _ _ h => h) (Or.inl ⟨rfl, fun w' hSw => by have s1 := hSw.2.1; clear hSw; go_simp⟩) hS0 ?_
    simp only [Act.put, List.setIfInBounds_toArray, List.set_cons_zero, List.set_cons_succ]
    refine wpAnyH_takeD (i := 12) (v := (.bool true)) (some 34) rfl rfl (by kernel_rfl) (by kernel_rfl) (by kernel_rfl) (fun _ _ _ h => h) (Or.inl ⟨rfl, fun w' hSw => by clear hSw; go_simp⟩) hS0 ?_
    simp only [Act.put, List.setIfInBounds_toArray, List.set_cons_zero, List.set_cons_succ]
    refine wpAnyH_takeD (i := 13) (v := (.bool true)) (some 35) rfl rfl (by kernel_rfl) (by kernel_rfl) (by kernel_rfl) (fun _ _ _ h => h) (Or.inl ⟨rfl, fun w' hSw => by go_simp⟩) hS0 ?_
    simp only [Act.put, List.setIfInBounds_toArray, List.set_cons_zero, List.set_cons_succ]
    refine wpAnyH_takeD (i := 14) (v := (.bool true)) (some 36) rfl rfl (by kernel_rfl) (by kernel_rfl) (by kernel_rfl) (fun _ _ _ h => h) (Or.inl ⟨rfl, fun w' hSw => by go_simp⟩) hS0 ?_
    simp only [Act.put, List.setIfInBounds_toArray, List.set_cons_zero, List.set_cons_succ]
    refine wpAnyH_takeD (i := 15) (v := (.pointer (some ⟨w.heap.size + 1, 1, none⟩))) (some 37) rfl rfl (by kernel_rfl) (by kernel_rfl) (by kernel_rfl) (fun _ _ _ h => h) (Or.inl ⟨rfl, fun w' hSw => by go_simp⟩) hS0 ?_
    simp only [Act.put, List.setIfInBounds_toArray, List.set_cons_zero, List.set_cons_succ]
    refine wpAnyH_takeD (i := 16) (v := (.int .u32 (pGen bytes : Nat))) (some 38) rfl rfl (by kernel_rfl) (by kernel_rfl) (by kernel_rfl) (fun _ _ _ h => h) (Or.inl ⟨rfl, fun w' hSw => by have s1 := hSw.2.1; clear hSw; go_simp⟩) hS0 ?_
    simp only [Act.put, List.setIfInBounds_toArray, List.set_cons_zero, List.set_cons_succ]
    refine wpAnyH_takeD (i := 17) (v := (.bool true)) (some 39) rfl rfl (by kernel_rfl) (by kernel_rfl) (by kernel_rfl) (fun _ _ _ h => h) (Or.inl ⟨rfl, fun w' hSw => by clear hSw; go_simp⟩) hS0 ?_
    simp only [Act.put, List.setIfInBounds_toArray, List.set_cons_zero, List.set_cons_succ]
    refine wpAnyH_takeD (i := 18) (v := (.bool true)) (some 40) rfl rfl (by kernel_rfl) (by kernel_rfl) (by kernel_rfl) (fun _ _ _ h => h) (Or.inl ⟨rfl, fun w' hSw => by go_simp⟩) hS0 ?_
    simp only [Act.put, List.setIfInBounds_toArray, List.set_cons_zero, List.set_cons_succ]
    refine wpAnyH_takeD (i := 19) (v := (.bool true)) (some 41) rfl rfl (by kernel_rfl) (by kernel_rfl) (by kernel_rfl) (fun _ _ _ h => h) (Or.inl ⟨rfl, fun w' hSw => by go_simp⟩) hS0 ?_
    simp only [Act.put, List.setIfInBounds_toArray, List.set_cons_zero, List.set_cons_succ]
    refine wpAnyH_takeD (i := 20) (v := (.pointer (some ⟨w.heap.size + 1, 2, none⟩))) (some 42) rfl rfl (by kernel_rfl) (by kernel_rfl) (by kernel_rfl) (fun _ _ _ h => h) (Or.inl ⟨rfl, fun w' hSw => by go_simp⟩) hS0 ?_
    simp only [Act.put, List.setIfInBounds_toArray, List.set_cons_zero, List.set_cons_succ]
    refine wpAnyH_takeD (i := 21) (v := (.pointer (some ⟨w.heap.size + 1, 2, none⟩))) (some 43) rfl rfl (by kernel_rfl) (by kernel_rfl) (by kernel_rfl) (fun _ _ _ h => h) (Or.inl ⟨rfl, fun w' hSw => by go_simp⟩) hS0 ?_
    simp only [Act.put, List.setIfInBounds_toArray, List.set_cons_zero, List.set_cons_succ]
    refine wpAnyH_takeD (i := 22) (v := (.int .i64 (pBlk bytes : Nat))) (some 44) rfl rfl (by kernel_rfl) (by kernel_rfl) (by kernel_rfl) (fun _ _ _ h => h) (Or.inl ⟨rfl, fun w' hSw => by have s1 := hSw.2.2.1; clear hSw; go_simp⟩) hS0 ?_
    simp only [Act.put, List.setIfInBounds_toArray, List.set_cons_zero, List.set_cons_succ]
    refine wpAnyH_takeD (i := 23) (v := (.bool false)) (some 45) rfl rfl (by kernel_rfl) (by kernel_rfl) (by kernel_rfl) (fun _ _ _ h => h) (Or.inl ⟨rfl, fun w' hSw => by clear hSw; go_simp⟩) hS0 ?_
    simp only [Act.put, List.setIfInBounds_toArray, List.set_cons_zero, List.set_cons_succ]
    refine wpAnyH_takeD (i := 24) (v := (.bool false)) (some 46) rfl rfl (by kernel_rfl) (by kernel_rfl) (by kernel_rfl) (fun _ _ _ h => h) (Or.inl ⟨rfl, fun w' hSw => by go_simp⟩) hS0 ?_
    simp only [Act.put, List.setIfInBounds_toArray, List.set_cons_zero, List.set_cons_succ]
    refine wpAnyH_takeD (i := 25) (v := (.pointer (some ⟨w.heap.size + 1, 2, none⟩))) (some 47) rfl rfl (by kernel_rfl) (by kernel_rfl) (by kernel_rfl) (fun _ _ _ h => h) (Or.inl ⟨rfl, fun w' hSw => by go_simp⟩) hS0 ?_
    simp only [Act.put, List.setIfInBounds_toArray, List.set_cons_zero, List.set_cons_succ]
    refine wpAnyH_takeD (i := 26) (v := (.pointer (some ⟨w.heap.size + 1, 3, none⟩))) (some 48) rfl rfl (by kernel_rfl) (by kernel_rfl) (by kernel_rfl) (fun _ _ _ h => h) (Or.inl ⟨rfl, fun w' hSw => by go_simp⟩) hS0 ?_
    simp only [Act.put, List.setIfInBounds_toArray, List.set_cons_zero, List.set_cons_succ]
    refine wpAnyH_takeD (i := 27) (v := (.int .u32 (pRgen bytes : Nat))) (some 49) rfl rfl (by kernel_rfl) (by kernel_rfl) (by kernel_rfl) (fun _ _ _ h => h) (Or.inl ⟨rfl, fun w' hSw => by have s1 := hSw.2.2.2; clear hSw; go_simp⟩) hS0 ?_
    simp only [Act.put, List.setIfInBounds_toArray, List.set_cons_zero, List.set_cons_succ]
    refine wpAnyH_takeD (i := 28) (v := (.bool false)) (some 50) rfl rfl (by kernel_rfl) (by kernel_rfl) (by kernel_rfl) (fun _ _ _ h => h) (Or.inl ⟨rfl, fun w' hSw => by clear hSw; go_simp⟩) hS0 ?_
    simp only [Act.put, List.setIfInBounds_toArray, List.set_cons_zero, List.set_cons_succ]
    refine wpAnyH_takeD (i := 29) (v := (.bool false)) (some 51) rfl rfl (by kernel_rfl) (by kernel_rfl) (by kernel_rfl) (fun _ _ _ h => h) (Or.inl ⟨rfl, fun w' hSw => by go_simp⟩) hS0 ?_
    simp only [Act.put, List.setIfInBounds_toArray, List.set_cons_zero, List.set_cons_succ]
    refine wpAnyH_takeD (i := 30) (v := (.bool false)) (some 52) rfl rfl (by kernel_rfl) (by kernel_rfl) (by kernel_rfl) (fun _ _ _ h => h) (Or.inl ⟨rfl, fun w' hSw => by go_simp⟩) hS0 ?_
    simp only [Act.put, List.setIfInBounds_toArray, List.set_cons_zero, List.set_cons_succ]
    refine wpAnyH_one (i := 31) (by kernel_rfl) rfl rfl ?_
    refine wp_store_sz 149 (.tmp 4) (.tmp 22) rfl w.heap.size 0 (headV slot (pGen bytes) (pBlk bytes) (pRgen bytes)).toList rfl rfl 149 (headV 0 0 0 0).toList (HB4.out.drew.drewN k) (Nat.le_refl _) size_head (headV_one _ _ _ _) ?_
    intro w3 hb3 hg3 hs3
    refine ⟨hS3 hg3, ?_⟩
    change wpAnyH _ _ _ _ _ _ _ (Act.put _ none undef) _
    simp only [Act.put]
    refine wpAnyH_val (i := 32) (w' := w3) (v := (.bool false)) (some 5) (by kernel_rfl) rfl rfl rfl (by go_simp) (hS3 hg3) ?_
    simp only [Act.put, List.setIfInBounds_toArray, List.set_cons_zero, List.set_cons_succ]
    refine wpAnyH_done (by kernel_rfl) ?_ _
    go_wp2
    have hb3' : Blk w3 w.heap.size 149 (headV slot (pGen bytes) (pBlk bytes) (pRgen bytes)) := by rw [spl_all (L := (headV 0 0 0 0).toList) (cs := (headV slot (pGen bytes) (pBlk bytes) (pRgen bytes)).toList) rfl] at hb3; exact hb3
    have p0 := cellOf hb3' 0 rfl
    have p1 := cellOf hb3' 1 rfl
    have p2 := cellOf hb3' 2 rfl
    have p3 := cellOf hb3' 3 rfl
    exact bodyPost_ret (v := .tuple #[.agg (headV slot (pGen bytes) (pBlk bytes) (pRgen bytes)), (.bool false)]) (by simp [results, Tryz.results171, go_sem, p0, p1, p2, p3]; rfl) rfl ⟨rfl, (below_drewN HBEL.out.drew k).grown hg3 HBEL.out.size fun g' e => by injection e with e; omega⟩
set_option maxRecDepth 100000 in
set_option maxHeartbeats 1000000 in
theorem parse_h (slot n c : Nat) (A : Option Addr) (bytes : List UInt8) (w : World) (h : SlU w A n c bytes) (hn : 32 ≤ n) (hc : 33 ≤ c) (hn2 : n ≤ 1000) (hc2 : c ≤ 1000) (hs : sealedN (bytes.take 32) = true) (hm : pMagic bytes = 827479123) (hg : 0 < pGen bytes) (hg2 : ¬ pGen bytes < 1073741824) :
    Calls Tryz.prog 171 #[.int .i64 slot, .slice A n c] w fun e w' => e = .returned (.tuple #[.agg (headV slot (pGen bytes) (pBlk bytes) (pRgen bytes)), .bool false]) ∧ Below w.heap.size w w' := by
  obtain ⟨g, o, cur, rfl, hgb⟩ := h.some_ (by omega)
  have h32 := h.headOf 32 hn
  have t4 := h32.tail 4 (by omega) (by omega)
  have t8 := h32.tail 8 (by omega) (by omega)
  have t12 := h32.tail 12 (by omega) (by omega)
  have t16 := h32.tail 16 (by omega) (by omega)
  have hA : ∀ k, 0 < k → (some (⟨g, o, none⟩ : Addr)).map (·.add k) = some ⟨g, o + k, none⟩ := fun k hk => by simp only [Option.map_some, Addr.add]; rw [if_neg (by omega)]
  rw [hA _ (by omega)] at t4 t8 t12 t16
  have G4 := hide (fun W (hb : Below w.heap.size w W) => dget32_any (some ⟨g, o + 4, none⟩) 28 (c - 4) _ W (t4.below hb) (by omega) (by omega))
  have G8 := hide (fun W (hb : Below w.heap.size w W) => dget32_any (some ⟨g, o + 8, none⟩) 24 (c - 8) _ W (t8.below hb) (by omega) (by omega))
  have G12 := hide (fun W (hb : Below w.heap.size w W) => dget32_any (some ⟨g, o + 12, none⟩) 20 (c - 12) _ W (t12.below hb) (by omega) (by omega))
  have G16 := hide (fun W (hb : Below w.heap.size w W) => dget32_any (some ⟨g, o + 16, none⟩) 16 (c - 16) _ W (t16.below hb) (by omega) (by omega))
  have GS := hide (fun W (hb : Below w.heap.size w W) => sealed_any (some ⟨g, o, none⟩) 32 c _ W (h32.below hb) (by omega) (by omega))
  rw [hs] at GS
  have he : headV slot (pGen bytes) (pBlk bytes) (pRgen bytes) = #[.int .i64 slot, .int .u32 (get4 (List.drop 8 (List.take 32 bytes)) : Nat), .int .i64 (IntKind.i64.wrap (get4 (List.drop 12 (List.take 32 bytes)) : Nat)), .int .u32 (get4 (List.drop 16 (List.take 32 bytes)) : Nat)] := by
    have hw : IntKind.i64.wrap ((get4 (List.drop 12 (List.take 32 bytes)) : Nat) : Int) = ((get4 (List.drop 12 (List.take 32 bytes)) : Nat) : Int) := by
      have := get4_lt (List.drop 12 (List.take 32 bytes))
      rw [IntKind.wrap_i64]; omega
    rw [hw]
    rfl
  have HE := hide he
  clear he
  have q4 : ¬ c = 4 := by omega
  have q8 : ¬ c = 8 := by omega
  have q12 : ¬ c = 12 := by omega
  have q16 : ¬ c = 16 := by omega
  have r1 : (32 : Int) ≤ n := by omega
  have r2 : (n : Int) ≤ c := by have := h.2.1; omega
  have r3 : (32 : Int) ≤ c := by omega
  clear h h32 t4 t8 t12 t16 hA
  go_enter Tryz.func171, Tryz.ntmps171
  go_upto_region 2 with fail
  go_cut [6] (fun s6 wx => s6 = .pointer (some ⟨w.heap.size + 1, 0, none⟩) ∧ Blk wx (w.heap.size + 1) 149 (headV slot (pGen bytes) (pBlk bytes) (pRgen bytes)) ∧ Blk wx w.heap.size 149 (headV 0 0 0 0) ∧ Below w.heap.size w wx)
  case first =>
    go_wp2_with fail
    go_region_held3 (fun _ => True) (trivial) (first | (go_at_call 193; (with_reducible refine Calls.mono (G8.out _ ?_) ?_); (· first | exact ((Below.refl _ _).alloc (Nat.le_refl _) _).drew | exact (((Below.refl _ _).alloc (Nat.le_refl _) _).alloc (by simp) _).drew | exact (((Below.refl _ _).alloc (Nat.le_refl _) _).drew.alloc (by simp) _)); rintro e w' ⟨rfl, rfl⟩) | (go_at_call 193; (with_reducible refine Calls.mono (G12.out _ ?_) ?_); (· first | exact ((Below.refl _ _).alloc (Nat.le_refl _) _).drew | exact (((Below.refl _ _).alloc (Nat.le_refl _) _).alloc (by simp) _).drew | exact (((Below.refl _ _).alloc (Nat.le_refl _) _).drew.alloc (by simp) _)); rintro e w' ⟨rfl, rfl⟩) | (go_at_call 193; (with_reducible refine Calls.mono (G16.out _ ?_) ?_); (· first | exact ((Below.refl _ _).alloc (Nat.le_refl _) _).drew | exact (((Below.refl _ _).alloc (Nat.le_refl _) _).alloc (by simp) _).drew | exact (((Below.refl _ _).alloc (Nat.le_refl _) _).drew.alloc (by simp) _)); rintro e w' ⟨rfl, rfl⟩))
    all_goals
      go_wp2
      go_meet
      refine ⟨rfl, ?_, ?_, ?_⟩
      · rw [HE.out]; exact (Blk.new2 w _ _ _).drew
      · exact ((Blk.new w _ _).alloc _).drew
      · exact (((Below.refl _ _).alloc (Nat.le_refl _) _).alloc (by simp) _).drew
  case rest =>
    obtain ⟨rfl, hb6, hb4, hbel⟩ := hcut
    have c0 : wc.cell? ⟨w.heap.size + 1, 0, none⟩ = some (.int .i64 slot) := cellOf hb6 0 rfl
    have c1 : wc.cell? ⟨w.heap.size + 1, 1, none⟩ = some (.int .u32 (pGen bytes : Nat)) := cellOf hb6 1 rfl
    have c2 : wc.cell? ⟨w.heap.size + 1, 2, none⟩ = some (.int .i64 (pBlk bytes : Nat)) := cellOf hb6 2 rfl
    have c3 : wc.cell? ⟨w.heap.size + 1, 3, none⟩ = some (.int .u32 (pRgen bytes : Nat)) := cellOf hb6 3 rfl
    have d0 : wc.cell? ⟨w.heap.size, 0, none⟩ = some (.int .i64 0) := cellOf hb4 0 rfl
    have d1 : wc.cell? ⟨w.heap.size, 1, none⟩ = some (.int .u32 0) := cellOf hb4 1 rfl
    have d2 : wc.cell? ⟨w.heap.size, 2, none⟩ = some (.int .i64 0) := cellOf hb4 2 rfl
    have d3 : wc.cell? ⟨w.heap.size, 3, none⟩ = some (.int .u32 0) := cellOf hb4 3 rfl
    have f0 : wc.frozen? ⟨w.heap.size, 0, none⟩ = false := hb4.frozen 0
    have f1 : wc.frozen? ⟨w.heap.size, 1, none⟩ = false := hb4.frozen 1
    have f2 : wc.frozen? ⟨w.heap.size, 2, none⟩ = false := hb4.frozen 2
    have f3 : wc.frozen? ⟨w.heap.size, 3, none⟩ = false := hb4.frozen 3
    have e1 : ((get4 (List.drop 4 (List.take 32 bytes)) : Nat) : Int) = 827479123 := by have h := hm; unfold pMagic at h; omega
    have g1 : (0 : Int) < (pGen bytes : Nat) := by omega
    have g2 : (1073741824 : Int) ≤ (pGen bytes : Nat) := by omega
    have HB4 := hide hb4
    have HBEL := hide hbel
    have HM := hide hm
    have HS0 : Hid (wc.drew.cell? ⟨w.heap.size + 1, 0, none⟩ = some (.int .i64 slot) ∧ wc.drew.cell? ⟨w.heap.size + 1, 1, none⟩ = some (.int .u32 (pGen bytes : Nat)) ∧ wc.drew.cell? ⟨w.heap.size + 1, 2, none⟩ = some (.int .i64 (pBlk bytes : Nat)) ∧ wc.drew.cell? ⟨w.heap.size + 1, 3, none⟩ = some (.int .u32 (pRgen bytes : Nat))) := ⟨c0, c1, c2, c3⟩
    have hz6 := hb6.lt
    have hS3 : ∀ {w3 : World} {k : Nat}, (wc.drew.drewN k).grownBy w3 (some w.heap.size) → w3.cell? ⟨w.heap.size + 1, 0, none⟩ = some (.int .i64 slot) ∧ w3.cell? ⟨w.heap.size + 1, 1, none⟩ = some (.int .u32 (pGen bytes : Nat)) ∧ w3.cell? ⟨w.heap.size + 1, 2, none⟩ = some (.int .i64 (pBlk bytes : Nat)) ∧ w3.cell? ⟨w.heap.size + 1, 3, none⟩ = some (.int .u32 (pRgen bytes : Nat)) := by
      intro w3 k hg
      have h := hg.block (w.heap.size + 1) hz6 (fun e => by injection e with e; omega)
      refine ⟨?_, ?_, ?_, ?_⟩ <;> rw [World.cell?_of_block h]
      · exact c0
      · exact c1
      · exact c2
      · exact c3
    clear hb4 hb6 hbel c0 c1 c2 c3 d0 d1 d2 d3 f0 f1 f2 f3
    go_wp2_with fail
    refine wp_region_held_drew (S := fun w' => w'.cell? ⟨w.heap.size + 1, 0, none⟩ = some (.int .i64 slot) ∧ w'.cell? ⟨w.heap.size + 1, 1, none⟩ = some (.int .u32 (pGen bytes : Nat)) ∧ w'.cell? ⟨w.heap.size + 1, 2, none⟩ = some (.int .i64 (pBlk bytes : Nat)) ∧ w'.cell? ⟨w.heap.size + 1, 3, none⟩ = some (.int .u32 (pRgen bytes : Nat))) (by kernel_rfl) HS0.out ?_
    intro hS0
    refine wpAnyH_takeD (i := 0) (v := (.agg #[.int .i64 slot, .int .u32 (pGen bytes : Nat), .int .i64 (pBlk bytes : Nat), .int .u32 (pRgen bytes : Nat)])) (some 22) rfl rfl (by kernel_rfl) (by kernel_rfl) (by kernel_rfl) (fun _ _ _ h => h) (Or.inl ⟨rfl, fun w' hSw => by obtain ⟨s0, s1, s2, s3⟩ := hSw; go_simp⟩) hS0 ?_
    simp only [Act.put, List.setIfInBounds_toArray, List.set_cons_zero, List.set_cons_succ]
    refine wpAnyH_takeD (i := 1) (v := (.slice (some ⟨g, o, none⟩) 32 c)) (some 23) rfl rfl (by kernel_rfl) (by kernel_rfl) (by kernel_rfl) (fun _ _ _ h => h) (Or.inl ⟨rfl, fun w' hSw => by go_simp⟩) hS0 ?_
    simp only [Act.put, List.setIfInBounds_toArray, List.set_cons_zero, List.set_cons_succ]
    refine wpAnyH_call (i := 2) (f := 194) (some 24) (by kernel_rfl) rfl rfl rfl (by go_simp) (GS.out _ HBEL.out.drew) (fun _ _ h => h) ?_
    rintro _ ⟨k, rfl⟩
    refine ⟨hS0, ?_⟩
    simp only [Act.put, List.setIfInBounds_toArray, List.set_cons_zero, List.set_cons_succ]
    refine wpAnyH_takeD (i := 3) (v := (.bool true)) (some 25) rfl rfl (by kernel_rfl) (by kernel_rfl) (by kernel_rfl) (fun _ _ _ h => h) (Or.inl ⟨rfl, fun w' hSw => by go_simp⟩) hS0 ?_
    simp only [Act.put, List.setIfInBounds_toArray, List.set_cons_zero, List.set_cons_succ]
    refine wpAnyH_takeD (i := 4) (v := (.slice (some ⟨g, o, none⟩) 32 c)) (some 26) rfl rfl (by kernel_rfl) (by kernel_rfl) (by kernel_rfl) (fun _ _ _ h => h) (Or.inl ⟨rfl, fun w' hSw => by go_simp⟩) hS0 ?_
    simp only [Act.put, List.setIfInBounds_toArray, List.set_cons_zero, List.set_cons_succ]
    refine wpAnyH_takeD (i := 5) (v := (.slice (some ⟨g, o + 4, none⟩) 28 (c - 4))) (some 27) rfl rfl (by kernel_rfl) (by kernel_rfl) (by kernel_rfl) (fun _ _ _ h => h) (Or.inl ⟨rfl, fun w' hSw => by go_simp⟩) hS0 ?_
    simp only [Act.put, List.setIfInBounds_toArray, List.set_cons_zero, List.set_cons_succ]
    refine wpAnyH_call (i := 6) (f := 193) (some 28) (by kernel_rfl) rfl rfl rfl (by go_simp) (G4.out _ (below_drewN HBEL.out.drew k)) (fun _ _ h => h) ?_
    rintro _ rfl
    refine ⟨hS0, ?_⟩
    simp only [Act.put, List.setIfInBounds_toArray, List.set_cons_zero, List.set_cons_succ]
    refine wpAnyH_takeD (i := 7) (v := (.bool true)) (some 29) rfl rfl (by kernel_rfl) (by kernel_rfl) (by kernel_rfl) (fun _ _ _ h => h) (Or.inl ⟨rfl, fun w' hSw => by go_simp⟩) hS0 ?_
    simp only [Act.put, List.setIfInBounds_toArray, List.set_cons_zero, List.set_cons_succ]
    refine wpAnyH_takeD (i := 8) (v := (.bool true)) (some 30) rfl rfl (by kernel_rfl) (by kernel_rfl) (by kernel_rfl) (fun _ _ _ h => h) (Or.inl ⟨rfl, fun w' hSw => by go_simp⟩) hS0 ?_
    simp only [Act.put, List.setIfInBounds_toArray, List.set_cons_zero, List.set_cons_succ]
    refine wpAnyH_takeD (i := 9) (v := (.bool true)) (some 31) rfl rfl (by kernel_rfl) (by kernel_rfl) (by kernel_rfl) (fun _ _ _ h => h) (Or.inl ⟨rfl, fun w' hSw => by go_simp⟩) hS0 ?_
    simp only [Act.put, List.setIfInBounds_toArray, List.set_cons_zero, List.set_cons_succ]
    refine wpAnyH_takeD (i := 10) (v := (.pointer (some ⟨w.heap.size + 1, 1, none⟩))) (some 32) rfl rfl (by kernel_rfl) (by kernel_rfl) (by kernel_rfl) (fun _ _ _ h => h) (Or.inl ⟨rfl, fun w' hSw => by go_simp⟩) hS0 ?_
    simp only [Act.put, List.setIfInBounds_toArray, List.set_cons_zero, List.set_cons_succ]
    refine wpAnyH_takeD (i := 11) (v := (.int .u32 (pGen bytes : Nat))) (some 33) rfl rfl (by kernel_rfl) (by kernel_rfl) (by kernel_rfl) (fun _ _ _ h => h) (Or.inl ⟨rfl, fun w' hSw => by have s1 := hSw.2.1; clear hSw; go_simp⟩) hS0 ?_
    simp only [Act.put, List.setIfInBounds_toArray, List.set_cons_zero, List.set_cons_succ]
    refine wpAnyH_takeD (i := 12) (v := (.bool true)) (some 34) rfl rfl (by kernel_rfl) (by kernel_rfl) (by kernel_rfl) (fun _ _ _ h => h) (Or.inl ⟨rfl, fun w' hSw => by clear hSw; go_simp⟩) hS0 ?_
    simp only [Act.put, List.setIfInBounds_toArray, List.set_cons_zero, List.set_cons_succ]
    refine wpAnyH_takeD (i := 13) (v := (.bool true)) (some 35) rfl rfl (by kernel_rfl) (by kernel_rfl) (by kernel_rfl) (fun _ _ _ h => h) (Or.inl ⟨rfl, fun w' hSw => by go_simp⟩) hS0 ?_
    simp only [Act.put, List.setIfInBounds_toArray, List.set_cons_zero, List.set_cons_succ]
    refine wpAnyH_takeD (i := 14) (v := (.bool true)) (some 36) rfl rfl (by kernel_rfl) (by kernel_rfl) (by kernel_rfl) (fun _ _ _ h => h) (Or.inl ⟨rfl, fun w' hSw => by go_simp⟩) hS0 ?_
    simp only [Act.put, List.setIfInBounds_toArray, List.set_cons_zero, List.set_cons_succ]
    refine wpAnyH_takeD (i := 15) (v := (.pointer (some ⟨w.heap.size + 1, 1, none⟩))) (some 37) rfl rfl (by kernel_rfl) (by kernel_rfl) (by kernel_rfl) (fun _ _ _ h => h) (Or.inl ⟨rfl, fun w' hSw => by go_simp⟩) hS0 ?_
    simp only [Act.put, List.setIfInBounds_toArray, List.set_cons_zero, List.set_cons_succ]
    refine wpAnyH_takeD (i := 16) (v := (.int .u32 (pGen bytes : Nat))) (some 38) rfl rfl (by kernel_rfl) (by kernel_rfl) (by kernel_rfl) (fun _ _ _ h => h) (Or.inl ⟨rfl, fun w' hSw => by have s1 := hSw.2.1; clear hSw; go_simp⟩) hS0 ?_
    simp only [Act.put, List.setIfInBounds_toArray, List.set_cons_zero, List.set_cons_succ]
    refine wpAnyH_takeD (i := 17) (v := (.bool false)) (some 39) rfl rfl (by kernel_rfl) (by kernel_rfl) (by kernel_rfl) (fun _ _ _ h => h) (Or.inl ⟨rfl, fun w' hSw => by clear hSw; go_simp⟩) hS0 ?_
    simp only [Act.put, List.setIfInBounds_toArray, List.set_cons_zero, List.set_cons_succ]
    refine wpAnyH_takeD (i := 18) (v := (.bool false)) (some 40) rfl rfl (by kernel_rfl) (by kernel_rfl) (by kernel_rfl) (fun _ _ _ h => h) (Or.inl ⟨rfl, fun w' hSw => by go_simp⟩) hS0 ?_
    simp only [Act.put, List.setIfInBounds_toArray, List.set_cons_zero, List.set_cons_succ]
    refine wpAnyH_takeD (i := 19) (v := (.bool false)) (some 41) rfl rfl (by kernel_rfl) (by kernel_rfl) (by kernel_rfl) (fun _ _ _ h => h) (Or.inl ⟨rfl, fun w' hSw => by go_simp⟩) hS0 ?_
    simp only [Act.put, List.setIfInBounds_toArray, List.set_cons_zero, List.set_cons_succ]
    refine wpAnyH_takeD (i := 20) (v := undef) (some 42) rfl rfl (by kernel_rfl) (by kernel_rfl) (by kernel_rfl) (fun _ _ _ h => h) (Or.inr ⟨rfl, rfl⟩) hS0 ?_
    simp only [Act.put, List.setIfInBounds_toArray, List.set_cons_zero, List.set_cons_succ]
    refine wpAnyH_takeD (i := 21) (v := undef) (some 43) rfl rfl (by kernel_rfl) (by kernel_rfl) (by kernel_rfl) (fun _ _ _ h => h) (Or.inr ⟨rfl, rfl⟩) hS0 ?_
    simp only [Act.put, List.setIfInBounds_toArray, List.set_cons_zero, List.set_cons_succ]
    refine wpAnyH_takeD (i := 22) (v := undef) (some 44) rfl rfl (by kernel_rfl) (by kernel_rfl) (by kernel_rfl) (fun _ _ _ h => h) (Or.inr ⟨rfl, rfl⟩) hS0 ?_
    simp only [Act.put, List.setIfInBounds_toArray, List.set_cons_zero, List.set_cons_succ]
    refine wpAnyH_takeD (i := 23) (v := undef) (some 45) rfl rfl (by kernel_rfl) (by kernel_rfl) (by kernel_rfl) (fun _ _ _ h => h) (Or.inr ⟨rfl, rfl⟩) hS0 ?_
    simp only [Act.put, List.setIfInBounds_toArray, List.set_cons_zero, List.set_cons_succ]
    refine wpAnyH_takeD (i := 24) (v := undef) (some 46) rfl rfl (by kernel_rfl) (by kernel_rfl) (by kernel_rfl) (fun _ _ _ h => h) (Or.inr ⟨rfl, rfl⟩) hS0 ?_
    simp only [Act.put, List.setIfInBounds_toArray, List.set_cons_zero, List.set_cons_succ]
    refine wpAnyH_takeD (i := 25) (v := undef) (some 47) rfl rfl (by kernel_rfl) (by kernel_rfl) (by kernel_rfl) (fun _ _ _ h => h) (Or.inr ⟨rfl, rfl⟩) hS0 ?_
    simp only [Act.put, List.setIfInBounds_toArray, List.set_cons_zero, List.set_cons_succ]
    refine wpAnyH_takeD (i := 26) (v := undef) (some 48) rfl rfl (by kernel_rfl) (by kernel_rfl) (by kernel_rfl) (fun _ _ _ h => h) (Or.inr ⟨rfl, rfl⟩) hS0 ?_
    simp only [Act.put, List.setIfInBounds_toArray, List.set_cons_zero, List.set_cons_succ]
    refine wpAnyH_takeD (i := 27) (v := undef) (some 49) rfl rfl (by kernel_rfl) (by kernel_rfl) (by kernel_rfl) (fun _ _ _ h => h) (Or.inr ⟨rfl, rfl⟩) hS0 ?_
    simp only [Act.put, List.setIfInBounds_toArray, List.set_cons_zero, List.set_cons_succ]
    refine wpAnyH_takeD (i := 28) (v := undef) (some 50) rfl rfl (by kernel_rfl) (by kernel_rfl) (by kernel_rfl) (fun _ _ _ h => h) (Or.inr ⟨rfl, rfl⟩) hS0 ?_
    simp only [Act.put, List.setIfInBounds_toArray, List.set_cons_zero, List.set_cons_succ]
    refine wpAnyH_takeD (i := 29) (v := undef) (some 51) rfl rfl (by kernel_rfl) (by kernel_rfl) (by kernel_rfl) (fun _ _ _ h => h) (Or.inr ⟨rfl, rfl⟩) hS0 ?_
    simp only [Act.put, List.setIfInBounds_toArray, List.set_cons_zero, List.set_cons_succ]
    refine wpAnyH_takeD (i := 30) (v := (.bool false)) (some 52) rfl rfl (by kernel_rfl) (by kernel_rfl) (by kernel_rfl) (fun _ _ _ h => h) (Or.inl ⟨rfl, fun w' hSw => by go_simp⟩) hS0 ?_
    simp only [Act.put, List.setIfInBounds_toArray, List.set_cons_zero, List.set_cons_succ]
    refine wpAnyH_one (i := 31) (by kernel_rfl) rfl rfl ?_
    refine wp_store_sz 149 (.tmp 4) (.tmp 22) rfl w.heap.size 0 (headV slot (pGen bytes) (pBlk bytes) (pRgen bytes)).toList rfl rfl 149 (headV 0 0 0 0).toList (HB4.out.drew.drewN k) (Nat.le_refl _) size_head (headV_one _ _ _ _) ?_
    intro w3 hb3 hg3 hs3
    refine ⟨hS3 hg3, ?_⟩
    change wpAnyH _ _ _ _ _ _ _ (Act.put _ none undef) _
    simp only [Act.put]
    refine wpAnyH_val (i := 32) (w' := w3) (v := (.bool false)) (some 5) (by kernel_rfl) rfl rfl rfl (by go_simp) (hS3 hg3) ?_
    simp only [Act.put, List.setIfInBounds_toArray, List.set_cons_zero, List.set_cons_succ]
    refine wpAnyH_done (by kernel_rfl) ?_ _
    go_wp2
    have hb3' : Blk w3 w.heap.size 149 (headV slot (pGen bytes) (pBlk bytes) (pRgen bytes)) := by rw [spl_all (L := (headV 0 0 0 0).toList) (cs := (headV slot (pGen bytes) (pBlk bytes) (pRgen bytes)).toList) rfl] at hb3; exact hb3
    have p0 := cellOf hb3' 0 rfl
    have p1 := cellOf hb3' 1 rfl
    have p2 := cellOf hb3' 2 rfl
    have p3 := cellOf hb3' 3 rfl
    exact bodyPost_ret (v := .tuple #[.agg (headV slot (pGen bytes) (pBlk bytes) (pRgen bytes)), (.bool false)]) (by simp [results, Tryz.results171, go_sem, p0, p1, p2, p3]; rfl) rfl ⟨rfl, (below_drewN HBEL.out.drew k).grown hg3 HBEL.out.size fun g' e => by injection e with e; omega⟩
set_option maxRecDepth 100000 in
set_option maxHeartbeats 1000000 in
theorem parse_g (slot n c : Nat) (A : Option Addr) (bytes : List UInt8) (w : World) (h : SlU w A n c bytes) (hn : 32 ≤ n) (hc : 33 ≤ c) (hn2 : n ≤ 1000) (hc2 : c ≤ 1000) (hs : sealedN (bytes.take 32) = true) (hm : pMagic bytes = 827479123) (hg : ¬ 0 < pGen bytes) :
    Calls Tryz.prog 171 #[.int .i64 slot, .slice A n c] w fun e w' => e = .returned (.tuple #[.agg (headV slot (pGen bytes) (pBlk bytes) (pRgen bytes)), .bool false]) ∧ Below w.heap.size w w' := by
  obtain ⟨g, o, cur, rfl, hgb⟩ := h.some_ (by omega)
  have h32 := h.headOf 32 hn
  have t4 := h32.tail 4 (by omega) (by omega)
  have t8 := h32.tail 8 (by omega) (by omega)
  have t12 := h32.tail 12 (by omega) (by omega)
  have t16 := h32.tail 16 (by omega) (by omega)
  have hA : ∀ k, 0 < k → (some (⟨g, o, none⟩ : Addr)).map (·.add k) = some ⟨g, o + k, none⟩ := fun k hk => by simp only [Option.map_some, Addr.add]; rw [if_neg (by omega)]
  rw [hA _ (by omega)] at t4 t8 t12 t16
  have G4 := hide (fun W (hb : Below w.heap.size w W) => dget32_any (some ⟨g, o + 4, none⟩) 28 (c - 4) _ W (t4.below hb) (by omega) (by omega))
  have G8 := hide (fun W (hb : Below w.heap.size w W) => dget32_any (some ⟨g, o + 8, none⟩) 24 (c - 8) _ W (t8.below hb) (by omega) (by omega))
  have G12 := hide (fun W (hb : Below w.heap.size w W) => dget32_any (some ⟨g, o + 12, none⟩) 20 (c - 12) _ W (t12.below hb) (by omega) (by omega))
  have G16 := hide (fun W (hb : Below w.heap.size w W) => dget32_any (some ⟨g, o + 16, none⟩) 16 (c - 16) _ W (t16.below hb) (by omega) (by omega))
  have GS := hide (fun W (hb : Below w.heap.size w W) => sealed_any (some ⟨g, o, none⟩) 32 c _ W (h32.below hb) (by omega) (by omega))
  rw [hs] at GS
  have he : headV slot (pGen bytes) (pBlk bytes) (pRgen bytes) = #[.int .i64 slot, .int .u32 (get4 (List.drop 8 (List.take 32 bytes)) : Nat), .int .i64 (IntKind.i64.wrap (get4 (List.drop 12 (List.take 32 bytes)) : Nat)), .int .u32 (get4 (List.drop 16 (List.take 32 bytes)) : Nat)] := by
    have hw : IntKind.i64.wrap ((get4 (List.drop 12 (List.take 32 bytes)) : Nat) : Int) = ((get4 (List.drop 12 (List.take 32 bytes)) : Nat) : Int) := by
      have := get4_lt (List.drop 12 (List.take 32 bytes))
      rw [IntKind.wrap_i64]; omega
    rw [hw]
    rfl
  have HE := hide he
  clear he
  have q4 : ¬ c = 4 := by omega
  have q8 : ¬ c = 8 := by omega
  have q12 : ¬ c = 12 := by omega
  have q16 : ¬ c = 16 := by omega
  have r1 : (32 : Int) ≤ n := by omega
  have r2 : (n : Int) ≤ c := by have := h.2.1; omega
  have r3 : (32 : Int) ≤ c := by omega
  clear h h32 t4 t8 t12 t16 hA
  go_enter Tryz.func171, Tryz.ntmps171
  go_upto_region 2 with fail
  go_cut [6] (fun s6 wx => s6 = .pointer (some ⟨w.heap.size + 1, 0, none⟩) ∧ Blk wx (w.heap.size + 1) 149 (headV slot (pGen bytes) (pBlk bytes) (pRgen bytes)) ∧ Blk wx w.heap.size 149 (headV 0 0 0 0) ∧ Below w.heap.size w wx)
  case first =>
    go_wp2_with fail
    go_region_held3 (fun _ => True) (trivial) (first | (go_at_call 193; (with_reducible refine Calls.mono (G8.out _ ?_) ?_); (· first | exact ((Below.refl _ _).alloc (Nat.le_refl _) _).drew | exact (((Below.refl _ _).alloc (Nat.le_refl _) _).alloc (by simp) _).drew | exact (((Below.refl _ _).alloc (Nat.le_refl _) _).drew.alloc (by simp) _)); rintro e w' ⟨rfl, rfl⟩) | (go_at_call 193; (with_reducible refine Calls.mono (G12.out _ ?_) ?_); (· first | exact ((Below.refl _ _).alloc (Nat.le_refl _) _).drew | exact (((Below.refl _ _).alloc (Nat.le_refl _) _).alloc (by simp) _).drew | exact (((Below.refl _ _).alloc (Nat.le_refl _) _).drew.alloc (by simp) _)); rintro e w' ⟨rfl, rfl⟩) | (go_at_call 193; (with_reducible refine Calls.mono (G16.out _ ?_) ?_); (· first | exact ((Below.refl _ _).alloc (Nat.le_refl _) _).drew | exact (((Below.refl _ _).alloc (Nat.le_refl _) _).alloc (by simp) _).drew | exact (((Below.refl _ _).alloc (Nat.le_refl _) _).drew.alloc (by simp) _)); rintro e w' ⟨rfl, rfl⟩))
    all_goals
      go_wp2
      go_meet
      refine ⟨rfl, ?_, ?_, ?_⟩
      · rw [HE.out]; exact (Blk.new2 w _ _ _).drew
      · exact ((Blk.new w _ _).alloc _).drew
      · exact (((Below.refl _ _).alloc (Nat.le_refl _) _).alloc (by simp) _).drew
  case rest =>
    obtain ⟨rfl, hb6, hb4, hbel⟩ := hcut
    have c0 : wc.cell? ⟨w.heap.size + 1, 0, none⟩ = some (.int .i64 slot) := cellOf hb6 0 rfl
    have c1 : wc.cell? ⟨w.heap.size + 1, 1, none⟩ = some (.int .u32 (pGen bytes : Nat)) := cellOf hb6 1 rfl
    have c2 : wc.cell? ⟨w.heap.size + 1, 2, none⟩ = some (.int .i64 (pBlk bytes : Nat)) := cellOf hb6 2 rfl
    have c3 : wc.cell? ⟨w.heap.size + 1, 3, none⟩ = some (.int .u32 (pRgen bytes : Nat)) := cellOf hb6 3 rfl
    have d0 : wc.cell? ⟨w.heap.size, 0, none⟩ = some (.int .i64 0) := cellOf hb4 0 rfl
    have d1 : wc.cell? ⟨w.heap.size, 1, none⟩ = some (.int .u32 0) := cellOf hb4 1 rfl
    have d2 : wc.cell? ⟨w.heap.size, 2, none⟩ = some (.int .i64 0) := cellOf hb4 2 rfl
    have d3 : wc.cell? ⟨w.heap.size, 3, none⟩ = some (.int .u32 0) := cellOf hb4 3 rfl
    have f0 : wc.frozen? ⟨w.heap.size, 0, none⟩ = false := hb4.frozen 0
    have f1 : wc.frozen? ⟨w.heap.size, 1, none⟩ = false := hb4.frozen 1
    have f2 : wc.frozen? ⟨w.heap.size, 2, none⟩ = false := hb4.frozen 2
    have f3 : wc.frozen? ⟨w.heap.size, 3, none⟩ = false := hb4.frozen 3
    have e1 : ((get4 (List.drop 4 (List.take 32 bytes)) : Nat) : Int) = 827479123 := by have h := hm; unfold pMagic at h; omega
    have g1 : ((pGen bytes : Nat) : Int) = 0 := by omega
    have HB4 := hide hb4
    have HBEL := hide hbel
    have HM := hide hm
    have HS0 : Hid (wc.drew.cell? ⟨w.heap.size + 1, 0, none⟩ = some (.int .i64 slot) ∧ wc.drew.cell? ⟨w.heap.size + 1, 1, none⟩ = some (.int .u32 (pGen bytes : Nat)) ∧ wc.drew.cell? ⟨w.heap.size + 1, 2, none⟩ = some (.int .i64 (pBlk bytes : Nat)) ∧ wc.drew.cell? ⟨w.heap.size + 1, 3, none⟩ = some (.int .u32 (pRgen bytes : Nat))) := ⟨c0, c1, c2, c3⟩
    have hz6 := hb6.lt
    have hS3 : ∀ {w3 : World} {k : Nat}, (wc.drew.drewN k).grownBy w3 (some w.heap.size) → w3.cell? ⟨w.heap.size + 1, 0, none⟩ = some (.int .i64 slot) ∧ w3.cell? ⟨w.heap.size + 1, 1, none⟩ = some (.int .u32 (pGen bytes : Nat)) ∧ w3.cell? ⟨w.heap.size + 1, 2, none⟩ = some (.int .i64 (pBlk bytes : Nat)) ∧ w3.cell? ⟨w.heap.size + 1, 3, none⟩ = some (.int .u32 (pRgen bytes : Nat)) := by
      intro w3 k hg
      have h := hg.block (w.heap.size + 1) hz6 (fun e => by injection e with e; omega)
      refine ⟨?_, ?_, ?_, ?_⟩ <;> rw [World.cell?_of_block h]
      · exact c0
      · exact c1
      · exact c2
      · exact c3
    clear hb4 hb6 hbel c0 c1 c2 c3 d0 d1 d2 d3 f0 f1 f2 f3
    go_wp2_with fail
    refine wp_region_held_drew (S := fun w' => w'.cell? ⟨w.heap.size + 1, 0, none⟩ = some (.int .i64 slot) ∧ w'.cell? ⟨w.heap.size + 1, 1, none⟩ = some (.int .u32 (pGen bytes : Nat)) ∧ w'.cell? ⟨w.heap.size + 1, 2, none⟩ = some (.int .i64 (pBlk bytes : Nat)) ∧ w'.cell? ⟨w.heap.size + 1, 3, none⟩ = some (.int .u32 (pRgen bytes : Nat))) (by kernel_rfl) HS0.out ?_
    intro hS0
    refine wpAnyH_takeD (i := 0) (v := (.agg #[.int .i64 slot, .int .u32 (pGen bytes : Nat), .int .i64 (pBlk bytes : Nat), .int .u32 (pRgen bytes : Nat)])) (some 22) rfl rfl (by kernel_rfl) (by kernel_rfl) (by kernel_rfl) (fun _ _ _ h => h) (Or.inl ⟨rfl, fun w' hSw => by obtain ⟨s0, s1, s2, s3⟩ := hSw; go_simp⟩) hS0 ?_
    simp only [Act.put, List.setIfInBounds_toArray, List.set_cons_zero, List.set_cons_succ]
    refine wpAnyH_takeD (i := 1) (v := (.slice (some ⟨g, o, none⟩) 32 c)) (some 23) rfl rfl (by kernel_rfl) (by kernel_rfl) (by kernel_rfl) (fun _ _ _ h => h) (Or.inl ⟨rfl, fun w' hSw => by go_simp⟩) hS0 ?_
    simp only [Act.put, List.setIfInBounds_toArray, List.set_cons_zero, List.set_cons_succ]
    refine wpAnyH_call (i := 2) (f := 194) (some 24) (by kernel_rfl) rfl rfl rfl (by go_simp) (GS.out _ HBEL.out.drew) (fun _ _ h => h) ?_
    rintro _ ⟨k, rfl⟩
    refine ⟨hS0, ?_⟩
    simp only [Act.put, List.setIfInBounds_toArray, List.set_cons_zero, List.set_cons_succ]
    refine wpAnyH_takeD (i := 3) (v := (.bool true)) (some 25) rfl rfl (by kernel_rfl) (by kernel_rfl) (by kernel_rfl) (fun _ _ _ h => h) (Or.inl ⟨rfl, fun w' hSw => by go_simp⟩) hS0 ?_
    simp only [Act.put, List.setIfInBounds_toArray, List.set_cons_zero, List.set_cons_succ]
    refine wpAnyH_takeD (i := 4) (v := (.slice (some ⟨g, o, none⟩) 32 c)) (some 26) rfl rfl (by kernel_rfl) (by kernel_rfl) (by kernel_rfl) (fun _ _ _ h => h) (Or.inl ⟨rfl, fun w' hSw => by go_simp⟩) hS0 ?_
    simp only [Act.put, List.setIfInBounds_toArray, List.set_cons_zero, List.set_cons_succ]
    refine wpAnyH_takeD (i := 5) (v := (.slice (some ⟨g, o + 4, none⟩) 28 (c - 4))) (some 27) rfl rfl (by kernel_rfl) (by kernel_rfl) (by kernel_rfl) (fun _ _ _ h => h) (Or.inl ⟨rfl, fun w' hSw => by go_simp⟩) hS0 ?_
    simp only [Act.put, List.setIfInBounds_toArray, List.set_cons_zero, List.set_cons_succ]
    refine wpAnyH_call (i := 6) (f := 193) (some 28) (by kernel_rfl) rfl rfl rfl (by go_simp) (G4.out _ (below_drewN HBEL.out.drew k)) (fun _ _ h => h) ?_
    rintro _ rfl
    refine ⟨hS0, ?_⟩
    simp only [Act.put, List.setIfInBounds_toArray, List.set_cons_zero, List.set_cons_succ]
    refine wpAnyH_takeD (i := 7) (v := (.bool true)) (some 29) rfl rfl (by kernel_rfl) (by kernel_rfl) (by kernel_rfl) (fun _ _ _ h => h) (Or.inl ⟨rfl, fun w' hSw => by go_simp⟩) hS0 ?_
    simp only [Act.put, List.setIfInBounds_toArray, List.set_cons_zero, List.set_cons_succ]
    refine wpAnyH_takeD (i := 8) (v := (.bool true)) (some 30) rfl rfl (by kernel_rfl) (by kernel_rfl) (by kernel_rfl) (fun _ _ _ h => h) (Or.inl ⟨rfl, fun w' hSw => by go_simp⟩) hS0 ?_
    simp only [Act.put, List.setIfInBounds_toArray, List.set_cons_zero, List.set_cons_succ]
    refine wpAnyH_takeD (i := 9) (v := (.bool true)) (some 31) rfl rfl (by kernel_rfl) (by kernel_rfl) (by kernel_rfl) (fun _ _ _ h => h) (Or.inl ⟨rfl, fun w' hSw => by go_simp⟩) hS0 ?_
    simp only [Act.put, List.setIfInBounds_toArray, List.set_cons_zero, List.set_cons_succ]
    refine wpAnyH_takeD (i := 10) (v := (.pointer (some ⟨w.heap.size + 1, 1, none⟩))) (some 32) rfl rfl (by kernel_rfl) (by kernel_rfl) (by kernel_rfl) (fun _ _ _ h => h) (Or.inl ⟨rfl, fun w' hSw => by go_simp⟩) hS0 ?_
    simp only [Act.put, List.setIfInBounds_toArray, List.set_cons_zero, List.set_cons_succ]
    refine wpAnyH_takeD (i := 11) (v := (.int .u32 (pGen bytes : Nat))) (some 33) rfl rfl (by kernel_rfl) (by kernel_rfl) (by kernel_rfl) (fun _ _ _ h => h) (Or.inl ⟨rfl, fun w' hSw => by have s1 := hSw.2.1; clear hSw; go_simp⟩) hS0 ?_
    simp only [Act.put, List.setIfInBounds_toArray, List.set_cons_zero, List.set_cons_succ]
    refine wpAnyH_takeD (i := 12) (v := (.bool false)) (some 34) rfl rfl (by kernel_rfl) (by kernel_rfl) (by kernel_rfl) (fun _ _ _ h => h) (Or.inl ⟨rfl, fun w' hSw => by clear hSw; go_simp⟩) hS0 ?_
    simp only [Act.put, List.setIfInBounds_toArray, List.set_cons_zero, List.set_cons_succ]
    refine wpAnyH_takeD (i := 13) (v := (.bool false)) (some 35) rfl rfl (by kernel_rfl) (by kernel_rfl) (by kernel_rfl) (fun _ _ _ h => h) (Or.inl ⟨rfl, fun w' hSw => by go_simp⟩) hS0 ?_
    simp only [Act.put, List.setIfInBounds_toArray, List.set_cons_zero, List.set_cons_succ]
    refine wpAnyH_takeD (i := 14) (v := (.bool false)) (some 36) rfl rfl (by kernel_rfl) (by kernel_rfl) (by kernel_rfl) (fun _ _ _ h => h) (Or.inl ⟨rfl, fun w' hSw => by go_simp⟩) hS0 ?_
    simp only [Act.put, List.setIfInBounds_toArray, List.set_cons_zero, List.set_cons_succ]
    refine wpAnyH_takeD (i := 15) (v := undef) (some 37) rfl rfl (by kernel_rfl) (by kernel_rfl) (by kernel_rfl) (fun _ _ _ h => h) (Or.inr ⟨rfl, rfl⟩) hS0 ?_
    simp only [Act.put, List.setIfInBounds_toArray, List.set_cons_zero, List.set_cons_succ]
    refine wpAnyH_takeD (i := 16) (v := undef) (some 38) rfl rfl (by kernel_rfl) (by kernel_rfl) (by kernel_rfl) (fun _ _ _ h => h) (Or.inr ⟨rfl, rfl⟩) hS0 ?_
    simp only [Act.put, List.setIfInBounds_toArray, List.set_cons_zero, List.set_cons_succ]
    refine wpAnyH_takeD (i := 17) (v := undef) (some 39) rfl rfl (by kernel_rfl) (by kernel_rfl) (by kernel_rfl) (fun _ _ _ h => h) (Or.inr ⟨rfl, rfl⟩) hS0 ?_
    simp only [Act.put, List.setIfInBounds_toArray, List.set_cons_zero, List.set_cons_succ]
    refine wpAnyH_takeD (i := 18) (v := (.bool false)) (some 40) rfl rfl (by kernel_rfl) (by kernel_rfl) (by kernel_rfl) (fun _ _ _ h => h) (Or.inl ⟨rfl, fun w' hSw => by go_simp⟩) hS0 ?_
    simp only [Act.put, List.setIfInBounds_toArray, List.set_cons_zero, List.set_cons_succ]
    refine wpAnyH_takeD (i := 19) (v := (.bool false)) (some 41) rfl rfl (by kernel_rfl) (by kernel_rfl) (by kernel_rfl) (fun _ _ _ h => h) (Or.inl ⟨rfl, fun w' hSw => by go_simp⟩) hS0 ?_
    simp only [Act.put, List.setIfInBounds_toArray, List.set_cons_zero, List.set_cons_succ]
    refine wpAnyH_takeD (i := 20) (v := undef) (some 42) rfl rfl (by kernel_rfl) (by kernel_rfl) (by kernel_rfl) (fun _ _ _ h => h) (Or.inr ⟨rfl, rfl⟩) hS0 ?_
    simp only [Act.put, List.setIfInBounds_toArray, List.set_cons_zero, List.set_cons_succ]
    refine wpAnyH_takeD (i := 21) (v := undef) (some 43) rfl rfl (by kernel_rfl) (by kernel_rfl) (by kernel_rfl) (fun _ _ _ h => h) (Or.inr ⟨rfl, rfl⟩) hS0 ?_
    simp only [Act.put, List.setIfInBounds_toArray, List.set_cons_zero, List.set_cons_succ]
    refine wpAnyH_takeD (i := 22) (v := undef) (some 44) rfl rfl (by kernel_rfl) (by kernel_rfl) (by kernel_rfl) (fun _ _ _ h => h) (Or.inr ⟨rfl, rfl⟩) hS0 ?_
    simp only [Act.put, List.setIfInBounds_toArray, List.set_cons_zero, List.set_cons_succ]
    refine wpAnyH_takeD (i := 23) (v := undef) (some 45) rfl rfl (by kernel_rfl) (by kernel_rfl) (by kernel_rfl) (fun _ _ _ h => h) (Or.inr ⟨rfl, rfl⟩) hS0 ?_
    simp only [Act.put, List.setIfInBounds_toArray, List.set_cons_zero, List.set_cons_succ]
    refine wpAnyH_takeD (i := 24) (v := undef) (some 46) rfl rfl (by kernel_rfl) (by kernel_rfl) (by kernel_rfl) (fun _ _ _ h => h) (Or.inr ⟨rfl, rfl⟩) hS0 ?_
    simp only [Act.put, List.setIfInBounds_toArray, List.set_cons_zero, List.set_cons_succ]
    refine wpAnyH_takeD (i := 25) (v := undef) (some 47) rfl rfl (by kernel_rfl) (by kernel_rfl) (by kernel_rfl) (fun _ _ _ h => h) (Or.inr ⟨rfl, rfl⟩) hS0 ?_
    simp only [Act.put, List.setIfInBounds_toArray, List.set_cons_zero, List.set_cons_succ]
    refine wpAnyH_takeD (i := 26) (v := undef) (some 48) rfl rfl (by kernel_rfl) (by kernel_rfl) (by kernel_rfl) (fun _ _ _ h => h) (Or.inr ⟨rfl, rfl⟩) hS0 ?_
    simp only [Act.put, List.setIfInBounds_toArray, List.set_cons_zero, List.set_cons_succ]
    refine wpAnyH_takeD (i := 27) (v := undef) (some 49) rfl rfl (by kernel_rfl) (by kernel_rfl) (by kernel_rfl) (fun _ _ _ h => h) (Or.inr ⟨rfl, rfl⟩) hS0 ?_
    simp only [Act.put, List.setIfInBounds_toArray, List.set_cons_zero, List.set_cons_succ]
    refine wpAnyH_takeD (i := 28) (v := undef) (some 50) rfl rfl (by kernel_rfl) (by kernel_rfl) (by kernel_rfl) (fun _ _ _ h => h) (Or.inr ⟨rfl, rfl⟩) hS0 ?_
    simp only [Act.put, List.setIfInBounds_toArray, List.set_cons_zero, List.set_cons_succ]
    refine wpAnyH_takeD (i := 29) (v := undef) (some 51) rfl rfl (by kernel_rfl) (by kernel_rfl) (by kernel_rfl) (fun _ _ _ h => h) (Or.inr ⟨rfl, rfl⟩) hS0 ?_
    simp only [Act.put, List.setIfInBounds_toArray, List.set_cons_zero, List.set_cons_succ]
    refine wpAnyH_takeD (i := 30) (v := (.bool false)) (some 52) rfl rfl (by kernel_rfl) (by kernel_rfl) (by kernel_rfl) (fun _ _ _ h => h) (Or.inl ⟨rfl, fun w' hSw => by go_simp⟩) hS0 ?_
    simp only [Act.put, List.setIfInBounds_toArray, List.set_cons_zero, List.set_cons_succ]
    refine wpAnyH_one (i := 31) (by kernel_rfl) rfl rfl ?_
    refine wp_store_sz 149 (.tmp 4) (.tmp 22) rfl w.heap.size 0 (headV slot (pGen bytes) (pBlk bytes) (pRgen bytes)).toList rfl rfl 149 (headV 0 0 0 0).toList (HB4.out.drew.drewN k) (Nat.le_refl _) size_head (headV_one _ _ _ _) ?_
    intro w3 hb3 hg3 hs3
    refine ⟨hS3 hg3, ?_⟩
    change wpAnyH _ _ _ _ _ _ _ (Act.put _ none undef) _
    simp only [Act.put]
    refine wpAnyH_val (i := 32) (w' := w3) (v := (.bool false)) (some 5) (by kernel_rfl) rfl rfl rfl (by go_simp) (hS3 hg3) ?_
    simp only [Act.put, List.setIfInBounds_toArray, List.set_cons_zero, List.set_cons_succ]
    refine wpAnyH_done (by kernel_rfl) ?_ _
    go_wp2
    have hb3' : Blk w3 w.heap.size 149 (headV slot (pGen bytes) (pBlk bytes) (pRgen bytes)) := by rw [spl_all (L := (headV 0 0 0 0).toList) (cs := (headV slot (pGen bytes) (pBlk bytes) (pRgen bytes)).toList) rfl] at hb3; exact hb3
    have p0 := cellOf hb3' 0 rfl
    have p1 := cellOf hb3' 1 rfl
    have p2 := cellOf hb3' 2 rfl
    have p3 := cellOf hb3' 3 rfl
    exact bodyPost_ret (v := .tuple #[.agg (headV slot (pGen bytes) (pBlk bytes) (pRgen bytes)), (.bool false)]) (by simp [results, Tryz.results171, go_sem, p0, p1, p2, p3]; rfl) rfl ⟨rfl, (below_drewN HBEL.out.drew k).grown hg3 HBEL.out.size fun g' e => by injection e with e; omega⟩
set_option maxRecDepth 100000 in
set_option maxHeartbeats 1000000 in
theorem parse_m (slot n c : Nat) (A : Option Addr) (bytes : List UInt8) (w : World) (h : SlU w A n c bytes) (hn : 32 ≤ n) (hc : 33 ≤ c) (hn2 : n ≤ 1000) (hc2 : c ≤ 1000) (hs : sealedN (bytes.take 32) = true) (hm : pMagic bytes ≠ 827479123) :
    Calls Tryz.prog 171 #[.int .i64 slot, .slice A n c] w fun e w' => e = .returned (.tuple #[.agg (headV slot (pGen bytes) (pBlk bytes) (pRgen bytes)), .bool false]) ∧ Below w.heap.size w w' := by
  obtain ⟨g, o, cur, rfl, hgb⟩ := h.some_ (by omega)
  have h32 := h.headOf 32 hn
  have t4 := h32.tail 4 (by omega) (by omega)
  have t8 := h32.tail 8 (by omega) (by omega)
  have t12 := h32.tail 12 (by omega) (by omega)
  have t16 := h32.tail 16 (by omega) (by omega)
  have hA : ∀ k, 0 < k → (some (⟨g, o, none⟩ : Addr)).map (·.add k) = some ⟨g, o + k, none⟩ := fun k hk => by simp only [Option.map_some, Addr.add]; rw [if_neg (by omega)]
  rw [hA _ (by omega)] at t4 t8 t12 t16
  have G4 := hide (fun W (hb : Below w.heap.size w W) => dget32_any (some ⟨g, o + 4, none⟩) 28 (c - 4) _ W (t4.below hb) (by omega) (by omega))
  have G8 := hide (fun W (hb : Below w.heap.size w W) => dget32_any (some ⟨g, o + 8, none⟩) 24 (c - 8) _ W (t8.below hb) (by omega) (by omega))
  have G12 := hide (fun W (hb : Below w.heap.size w W) => dget32_any (some ⟨g, o + 12, none⟩) 20 (c - 12) _ W (t12.below hb) (by omega) (by omega))
  have G16 := hide (fun W (hb : Below w.heap.size w W) => dget32_any (some ⟨g, o + 16, none⟩) 16 (c - 16) _ W (t16.below hb) (by omega) (by omega))
  have GS := hide (fun W (hb : Below w.heap.size w W) => sealed_any (some ⟨g, o, none⟩) 32 c _ W (h32.below hb) (by omega) (by omega))
  rw [hs] at GS
  have he : headV slot (pGen bytes) (pBlk bytes) (pRgen bytes) = #[.int .i64 slot, .int .u32 (get4 (List.drop 8 (List.take 32 bytes)) : Nat), .int .i64 (IntKind.i64.wrap (get4 (List.drop 12 (List.take 32 bytes)) : Nat)), .int .u32 (get4 (List.drop 16 (List.take 32 bytes)) : Nat)] := by
    have hw : IntKind.i64.wrap ((get4 (List.drop 12 (List.take 32 bytes)) : Nat) : Int) = ((get4 (List.drop 12 (List.take 32 bytes)) : Nat) : Int) := by
      have := get4_lt (List.drop 12 (List.take 32 bytes))
      rw [IntKind.wrap_i64]; omega
    rw [hw]
    rfl
  have HE := hide he
  clear he
  have q4 : ¬ c = 4 := by omega
  have q8 : ¬ c = 8 := by omega
  have q12 : ¬ c = 12 := by omega
  have q16 : ¬ c = 16 := by omega
  have r1 : (32 : Int) ≤ n := by omega
  have r2 : (n : Int) ≤ c := by have := h.2.1; omega
  have r3 : (32 : Int) ≤ c := by omega
  clear h h32 t4 t8 t12 t16 hA
  go_enter Tryz.func171, Tryz.ntmps171
  go_upto_region 2 with fail
  go_cut [6] (fun s6 wx => s6 = .pointer (some ⟨w.heap.size + 1, 0, none⟩) ∧ Blk wx (w.heap.size + 1) 149 (headV slot (pGen bytes) (pBlk bytes) (pRgen bytes)) ∧ Blk wx w.heap.size 149 (headV 0 0 0 0) ∧ Below w.heap.size w wx)
  case first =>
    go_wp2_with fail
    go_region_held3 (fun _ => True) (trivial) (first | (go_at_call 193; (with_reducible refine Calls.mono (G8.out _ ?_) ?_); (· first | exact ((Below.refl _ _).alloc (Nat.le_refl _) _).drew | exact (((Below.refl _ _).alloc (Nat.le_refl _) _).alloc (by simp) _).drew | exact (((Below.refl _ _).alloc (Nat.le_refl _) _).drew.alloc (by simp) _)); rintro e w' ⟨rfl, rfl⟩) | (go_at_call 193; (with_reducible refine Calls.mono (G12.out _ ?_) ?_); (· first | exact ((Below.refl _ _).alloc (Nat.le_refl _) _).drew | exact (((Below.refl _ _).alloc (Nat.le_refl _) _).alloc (by simp) _).drew | exact (((Below.refl _ _).alloc (Nat.le_refl _) _).drew.alloc (by simp) _)); rintro e w' ⟨rfl, rfl⟩) | (go_at_call 193; (with_reducible refine Calls.mono (G16.out _ ?_) ?_); (· first | exact ((Below.refl _ _).alloc (Nat.le_refl _) _).drew | exact (((Below.refl _ _).alloc (Nat.le_refl _) _).alloc (by simp) _).drew | exact (((Below.refl _ _).alloc (Nat.le_refl _) _).drew.alloc (by simp) _)); rintro e w' ⟨rfl, rfl⟩))
    all_goals
      go_wp2
      go_meet
      refine ⟨rfl, ?_, ?_, ?_⟩
      · rw [HE.out]; exact (Blk.new2 w _ _ _).drew
      · exact ((Blk.new w _ _).alloc _).drew
      · exact (((Below.refl _ _).alloc (Nat.le_refl _) _).alloc (by simp) _).drew
  case rest =>
    obtain ⟨rfl, hb6, hb4, hbel⟩ := hcut
    have c0 : wc.cell? ⟨w.heap.size + 1, 0, none⟩ = some (.int .i64 slot) := cellOf hb6 0 rfl
    have c1 : wc.cell? ⟨w.heap.size + 1, 1, none⟩ = some (.int .u32 (pGen bytes : Nat)) := cellOf hb6 1 rfl
    have c2 : wc.cell? ⟨w.heap.size + 1, 2, none⟩ = some (.int .i64 (pBlk bytes : Nat)) := cellOf hb6 2 rfl
    have c3 : wc.cell? ⟨w.heap.size + 1, 3, none⟩ = some (.int .u32 (pRgen bytes : Nat)) := cellOf hb6 3 rfl
    have d0 : wc.cell? ⟨w.heap.size, 0, none⟩ = some (.int .i64 0) := cellOf hb4 0 rfl
    have d1 : wc.cell? ⟨w.heap.size, 1, none⟩ = some (.int .u32 0) := cellOf hb4 1 rfl
    have d2 : wc.cell? ⟨w.heap.size, 2, none⟩ = some (.int .i64 0) := cellOf hb4 2 rfl
    have d3 : wc.cell? ⟨w.heap.size, 3, none⟩ = some (.int .u32 0) := cellOf hb4 3 rfl
    have f0 : wc.frozen? ⟨w.heap.size, 0, none⟩ = false := hb4.frozen 0
    have f1 : wc.frozen? ⟨w.heap.size, 1, none⟩ = false := hb4.frozen 1
    have f2 : wc.frozen? ⟨w.heap.size, 2, none⟩ = false := hb4.frozen 2
    have f3 : wc.frozen? ⟨w.heap.size, 3, none⟩ = false := hb4.frozen 3
    have e1 : ¬ ((get4 (List.drop 4 (List.take 32 bytes)) : Nat) : Int) = 827479123 := by have h := hm; unfold pMagic at h; omega
    have HB4 := hide hb4
    have HBEL := hide hbel
    have HM := hide hm
    have HS0 : Hid (wc.drew.cell? ⟨w.heap.size + 1, 0, none⟩ = some (.int .i64 slot) ∧ wc.drew.cell? ⟨w.heap.size + 1, 1, none⟩ = some (.int .u32 (pGen bytes : Nat)) ∧ wc.drew.cell? ⟨w.heap.size + 1, 2, none⟩ = some (.int .i64 (pBlk bytes : Nat)) ∧ wc.drew.cell? ⟨w.heap.size + 1, 3, none⟩ = some (.int .u32 (pRgen bytes : Nat))) := ⟨c0, c1, c2, c3⟩
    have hz6 := hb6.lt
    have hS3 : ∀ {w3 : World} {k : Nat}, (wc.drew.drewN k).grownBy w3 (some w.heap.size) → w3.cell? ⟨w.heap.size + 1, 0, none⟩ = some (.int .i64 slot) ∧ w3.cell? ⟨w.heap.size + 1, 1, none⟩ = some (.int .u32 (pGen bytes : Nat)) ∧ w3.cell? ⟨w.heap.size + 1, 2, none⟩ = some (.int .i64 (pBlk bytes : Nat)) ∧ w3.cell? ⟨w.heap.size + 1, 3, none⟩ = some (.int .u32 (pRgen bytes : Nat)) := by
      intro w3 k hg
      have h := hg.block (w.heap.size + 1) hz6 (fun e => by injection e with e; omega)
      refine ⟨?_, ?_, ?_, ?_⟩ <;> rw [World.cell?_of_block h]
      · exact c0
      · exact c1
      · exact c2
      · exact c3
    clear hb4 hb6 hbel c0 c1 c2 c3 d0 d1 d2 d3 f0 f1 f2 f3
    go_wp2_with fail
    refine wp_region_held_drew (S := fun w' => w'.cell? ⟨w.heap.size + 1, 0, none⟩ = some (.int .i64 slot) ∧ w'.cell? ⟨w.heap.size + 1, 1, none⟩ = some (.int .u32 (pGen bytes : Nat)) ∧ w'.cell? ⟨w.heap.size + 1, 2, none⟩ = some (.int .i64 (pBlk bytes : Nat)) ∧ w'.cell? ⟨w.heap.size + 1, 3, none⟩ = some (.int .u32 (pRgen bytes : Nat))) (by kernel_rfl) HS0.out ?_
    intro hS0
    refine wpAnyH_takeD (i := 0) (v := (.agg #[.int .i64 slot, .int .u32 (pGen bytes : Nat), .int .i64 (pBlk bytes : Nat), .int .u32 (pRgen bytes : Nat)])) (some 22) rfl rfl (by kernel_rfl) (by kernel_rfl) (by kernel_rfl) (fun _ _ _ h => h) (Or.inl ⟨rfl, fun w' hSw => by obtain ⟨s0, s1, s2, s3⟩ := hSw; go_simp⟩) hS0 ?_
    simp only [Act.put, List.setIfInBounds_toArray, List.set_cons_zero, List.set_cons_succ]
    refine wpAnyH_takeD (i := 1) (v := (.slice (some ⟨g, o, none⟩) 32 c)) (some 23) rfl rfl (by kernel_rfl) (by kernel_rfl) (by kernel_rfl) (fun _ _ _ h => h) (Or.inl ⟨rfl, fun w' hSw => by go_simp⟩) hS0 ?_
    simp only [Act.put, List.setIfInBounds_toArray, List.set_cons_zero, List.set_cons_succ]
    refine wpAnyH_call (i := 2) (f := 194) (some 24) (by kernel_rfl) rfl rfl rfl (by go_simp) (GS.out _ HBEL.out.drew) (fun _ _ h => h) ?_
    rintro _ ⟨k, rfl⟩
    refine ⟨hS0, ?_⟩
    simp only [Act.put, List.setIfInBounds_toArray, List.set_cons_zero, List.set_cons_succ]
    refine wpAnyH_takeD (i := 3) (v := (.bool true)) (some 25) rfl rfl (by kernel_rfl) (by kernel_rfl) (by kernel_rfl) (fun _ _ _ h => h) (Or.inl ⟨rfl, fun w' hSw => by go_simp⟩) hS0 ?_
    simp only [Act.put, List.setIfInBounds_toArray, List.set_cons_zero, List.set_cons_succ]
    refine wpAnyH_takeD (i := 4) (v := (.slice (some ⟨g, o, none⟩) 32 c)) (some 26) rfl rfl (by kernel_rfl) (by kernel_rfl) (by kernel_rfl) (fun _ _ _ h => h) (Or.inl ⟨rfl, fun w' hSw => by go_simp⟩) hS0 ?_
    simp only [Act.put, List.setIfInBounds_toArray, List.set_cons_zero, List.set_cons_succ]
    refine wpAnyH_takeD (i := 5) (v := (.slice (some ⟨g, o + 4, none⟩) 28 (c - 4))) (some 27) rfl rfl (by kernel_rfl) (by kernel_rfl) (by kernel_rfl) (fun _ _ _ h => h) (Or.inl ⟨rfl, fun w' hSw => by go_simp⟩) hS0 ?_
    simp only [Act.put, List.setIfInBounds_toArray, List.set_cons_zero, List.set_cons_succ]
    refine wpAnyH_call (i := 6) (f := 193) (some 28) (by kernel_rfl) rfl rfl rfl (by go_simp) (G4.out _ (below_drewN HBEL.out.drew k)) (fun _ _ h => h) ?_
    rintro _ rfl
    refine ⟨hS0, ?_⟩
    simp only [Act.put, List.setIfInBounds_toArray, List.set_cons_zero, List.set_cons_succ]
    refine wpAnyH_takeD (i := 7) (v := (.bool false)) (some 29) rfl rfl (by kernel_rfl) (by kernel_rfl) (by kernel_rfl) (fun _ _ _ h => h) (Or.inl ⟨rfl, fun w' hSw => by go_simp⟩) hS0 ?_
    simp only [Act.put, List.setIfInBounds_toArray, List.set_cons_zero, List.set_cons_succ]
    refine wpAnyH_takeD (i := 8) (v := (.bool false)) (some 30) rfl rfl (by kernel_rfl) (by kernel_rfl) (by kernel_rfl) (fun _ _ _ h => h) (Or.inl ⟨rfl, fun w' hSw => by go_simp⟩) hS0 ?_
    simp only [Act.put, List.setIfInBounds_toArray, List.set_cons_zero, List.set_cons_succ]
    refine wpAnyH_takeD (i := 9) (v := (.bool false)) (some 31) rfl rfl (by kernel_rfl) (by kernel_rfl) (by kernel_rfl) (fun _ _ _ h => h) (Or.inl ⟨rfl, fun w' hSw => by go_simp⟩) hS0 ?_
    simp only [Act.put, List.setIfInBounds_toArray, List.set_cons_zero, List.set_cons_succ]
    refine wpAnyH_takeD (i := 10) (v := undef) (some 32) rfl rfl (by kernel_rfl) (by kernel_rfl) (by kernel_rfl) (fun _ _ _ h => h) (Or.inr ⟨rfl, rfl⟩) hS0 ?_
    simp only [Act.put, List.setIfInBounds_toArray, List.set_cons_zero, List.set_cons_succ]
    refine wpAnyH_takeD (i := 11) (v := undef) (some 33) rfl rfl (by kernel_rfl) (by kernel_rfl) (by kernel_rfl) (fun _ _ _ h => h) (Or.inr ⟨rfl, rfl⟩) hS0 ?_
    simp only [Act.put, List.setIfInBounds_toArray, List.set_cons_zero, List.set_cons_succ]
    refine wpAnyH_takeD (i := 12) (v := undef) (some 34) rfl rfl (by kernel_rfl) (by kernel_rfl) (by kernel_rfl) (fun _ _ _ h => h) (Or.inr ⟨rfl, rfl⟩) hS0 ?_
    simp only [Act.put, List.setIfInBounds_toArray, List.set_cons_zero, List.set_cons_succ]
    refine wpAnyH_takeD (i := 13) (v := (.bool false)) (some 35) rfl rfl (by kernel_rfl) (by kernel_rfl) (by kernel_rfl) (fun _ _ _ h => h) (Or.inl ⟨rfl, fun w' hSw => by go_simp⟩) hS0 ?_
    simp only [Act.put, List.setIfInBounds_toArray, List.set_cons_zero, List.set_cons_succ]
    refine wpAnyH_takeD (i := 14) (v := (.bool false)) (some 36) rfl rfl (by kernel_rfl) (by kernel_rfl) (by kernel_rfl) (fun _ _ _ h => h) (Or.inl ⟨rfl, fun w' hSw => by go_simp⟩) hS0 ?_
    simp only [Act.put, List.setIfInBounds_toArray, List.set_cons_zero, List.set_cons_succ]
    refine wpAnyH_takeD (i := 15) (v := undef) (some 37) rfl rfl (by kernel_rfl) (by kernel_rfl) (by kernel_rfl) (fun _ _ _ h => h) (Or.inr ⟨rfl, rfl⟩) hS0 ?_
    simp only [Act.put, List.setIfInBounds_toArray, List.set_cons_zero, List.set_cons_succ]
    refine wpAnyH_takeD (i := 16) (v := undef) (some 38) rfl rfl (by kernel_rfl) (by kernel_rfl) (by kernel_rfl) (fun _ _ _ h => h) (Or.inr ⟨rfl, rfl⟩) hS0 ?_
    simp only [Act.put, List.setIfInBounds_toArray, List.set_cons_zero, List.set_cons_succ]
    refine wpAnyH_takeD (i := 17) (v := undef) (some 39) rfl rfl (by kernel_rfl) (by kernel_rfl) (by kernel_rfl) (fun _ _ _ h => h) (Or.inr ⟨rfl, rfl⟩) hS0 ?_
    simp only [Act.put, List.setIfInBounds_toArray, List.set_cons_zero, List.set_cons_succ]
    refine wpAnyH_takeD (i := 18) (v := (.bool false)) (some 40) rfl rfl (by kernel_rfl) (by kernel_rfl) (by kernel_rfl) (fun _ _ _ h => h) (Or.inl ⟨rfl, fun w' hSw => by go_simp⟩) hS0 ?_
    simp only [Act.put, List.setIfInBounds_toArray, List.set_cons_zero, List.set_cons_succ]
    refine wpAnyH_takeD (i := 19) (v := (.bool false)) (some 41) rfl rfl (by kernel_rfl) (by kernel_rfl) (by kernel_rfl) (fun _ _ _ h => h) (Or.inl ⟨rfl, fun w' hSw => by go_simp⟩) hS0 ?_
    simp only [Act.put, List.setIfInBounds_toArray, List.set_cons_zero, List.set_cons_succ]
    refine wpAnyH_takeD (i := 20) (v := undef) (some 42) rfl rfl (by kernel_rfl) (by kernel_rfl) (by kernel_rfl) (fun _ _ _ h => h) (Or.inr ⟨rfl, rfl⟩) hS0 ?_
    simp only [Act.put, List.setIfInBounds_toArray, List.set_cons_zero, List.set_cons_succ]
    refine wpAnyH_takeD (i := 21) (v := undef) (some 43) rfl rfl (by kernel_rfl) (by kernel_rfl) (by kernel_rfl) (fun _ _ _ h => h) (Or.inr ⟨rfl, rfl⟩) hS0 ?_
    simp only [Act.put, List.setIfInBounds_toArray, List.set_cons_zero, List.set_cons_succ]
    refine wpAnyH_takeD (i := 22) (v := undef) (some 44) rfl rfl (by kernel_rfl) (by kernel_rfl) (by kernel_rfl) (fun _ _ _ h => h) (Or.inr ⟨rfl, rfl⟩) hS0 ?_
    simp only [Act.put, List.setIfInBounds_toArray, List.set_cons_zero, List.set_cons_succ]
    refine wpAnyH_takeD (i := 23) (v := undef) (some 45) rfl rfl (by kernel_rfl) (by kernel_rfl) (by kernel_rfl) (fun _ _ _ h => h) (Or.inr ⟨rfl, rfl⟩) hS0 ?_
    simp only [Act.put, List.setIfInBounds_toArray, List.set_cons_zero, List.set_cons_succ]
    refine wpAnyH_takeD (i := 24) (v := undef) (some 46) rfl rfl (by kernel_rfl) (by kernel_rfl) (by kernel_rfl) (fun _ _ _ h => h) (Or.inr ⟨rfl, rfl⟩) hS0 ?_
    simp only [Act.put, List.setIfInBounds_toArray, List.set_cons_zero, List.set_cons_succ]
    refine wpAnyH_takeD (i := 25) (v := undef) (some 47) rfl rfl (by kernel_rfl) (by kernel_rfl) (by kernel_rfl) (fun _ _ _ h => h) (Or.inr ⟨rfl, rfl⟩) hS0 ?_
    simp only [Act.put, List.setIfInBounds_toArray, List.set_cons_zero, List.set_cons_succ]
    refine wpAnyH_takeD (i := 26) (v := undef) (some 48) rfl rfl (by kernel_rfl) (by kernel_rfl) (by kernel_rfl) (fun _ _ _ h => h) (Or.inr ⟨rfl, rfl⟩) hS0 ?_
    simp only [Act.put, List.setIfInBounds_toArray, List.set_cons_zero, List.set_cons_succ]
    refine wpAnyH_takeD (i := 27) (v := undef) (some 49) rfl rfl (by kernel_rfl) (by kernel_rfl) (by kernel_rfl) (fun _ _ _ h => h) (Or.inr ⟨rfl, rfl⟩) hS0 ?_
    simp only [Act.put, List.setIfInBounds_toArray, List.set_cons_zero, List.set_cons_succ]
    refine wpAnyH_takeD (i := 28) (v := undef) (some 50) rfl rfl (by kernel_rfl) (by kernel_rfl) (by kernel_rfl) (fun _ _ _ h => h) (Or.inr ⟨rfl, rfl⟩) hS0 ?_
    simp only [Act.put, List.setIfInBounds_toArray, List.set_cons_zero, List.set_cons_succ]
    refine wpAnyH_takeD (i := 29) (v := undef) (some 51) rfl rfl (by kernel_rfl) (by kernel_rfl) (by kernel_rfl) (fun _ _ _ h => h) (Or.inr ⟨rfl, rfl⟩) hS0 ?_
    simp only [Act.put, List.setIfInBounds_toArray, List.set_cons_zero, List.set_cons_succ]
    refine wpAnyH_takeD (i := 30) (v := (.bool false)) (some 52) rfl rfl (by kernel_rfl) (by kernel_rfl) (by kernel_rfl) (fun _ _ _ h => h) (Or.inl ⟨rfl, fun w' hSw => by go_simp⟩) hS0 ?_
    simp only [Act.put, List.setIfInBounds_toArray, List.set_cons_zero, List.set_cons_succ]
    refine wpAnyH_one (i := 31) (by kernel_rfl) rfl rfl ?_
    refine wp_store_sz 149 (.tmp 4) (.tmp 22) rfl w.heap.size 0 (headV slot (pGen bytes) (pBlk bytes) (pRgen bytes)).toList rfl rfl 149 (headV 0 0 0 0).toList (HB4.out.drew.drewN k) (Nat.le_refl _) size_head (headV_one _ _ _ _) ?_
    intro w3 hb3 hg3 hs3
    refine ⟨hS3 hg3, ?_⟩
    change wpAnyH _ _ _ _ _ _ _ (Act.put _ none undef) _
    simp only [Act.put]
    refine wpAnyH_val (i := 32) (w' := w3) (v := (.bool false)) (some 5) (by kernel_rfl) rfl rfl rfl (by go_simp) (hS3 hg3) ?_
    simp only [Act.put, List.setIfInBounds_toArray, List.set_cons_zero, List.set_cons_succ]
    refine wpAnyH_done (by kernel_rfl) ?_ _
    go_wp2
    have hb3' : Blk w3 w.heap.size 149 (headV slot (pGen bytes) (pBlk bytes) (pRgen bytes)) := by rw [spl_all (L := (headV 0 0 0 0).toList) (cs := (headV slot (pGen bytes) (pBlk bytes) (pRgen bytes)).toList) rfl] at hb3; exact hb3
    have p0 := cellOf hb3' 0 rfl
    have p1 := cellOf hb3' 1 rfl
    have p2 := cellOf hb3' 2 rfl
    have p3 := cellOf hb3' 3 rfl
    exact bodyPost_ret (v := .tuple #[.agg (headV slot (pGen bytes) (pBlk bytes) (pRgen bytes)), (.bool false)]) (by simp [results, Tryz.results171, go_sem, p0, p1, p2, p3]; rfl) rfl ⟨rfl, (below_drewN HBEL.out.drew k).grown hg3 HBEL.out.size fun g' e => by injection e with e; omega⟩
set_option maxRecDepth 100000 in
set_option maxHeartbeats 1000000 in
theorem parse_s (slot n c : Nat) (A : Option Addr) (bytes : List UInt8) (w : World) (h : SlU w A n c bytes) (hn : 32 ≤ n) (hc : 33 ≤ c) (hn2 : n ≤ 1000) (hc2 : c ≤ 1000) (hs : sealedN (bytes.take 32) = false) :
    Calls Tryz.prog 171 #[.int .i64 slot, .slice A n c] w fun e w' => e = .returned (.tuple #[.agg (headV slot (pGen bytes) (pBlk bytes) (pRgen bytes)), .bool false]) ∧ Below w.heap.size w w' := by
  obtain ⟨g, o, cur, rfl, hgb⟩ := h.some_ (by omega)
  have h32 := h.headOf 32 hn
  have t4 := h32.tail 4 (by omega) (by omega)
  have t8 := h32.tail 8 (by omega) (by omega)
  have t12 := h32.tail 12 (by omega) (by omega)
  have t16 := h32.tail 16 (by omega) (by omega)
  have hA : ∀ k, 0 < k → (some (⟨g, o, none⟩ : Addr)).map (·.add k) = some ⟨g, o + k, none⟩ := fun k hk => by simp only [Option.map_some, Addr.add]; rw [if_neg (by omega)]
  rw [hA _ (by omega)] at t4 t8 t12 t16
  have G4 := hide (fun W (hb : Below w.heap.size w W) => dget32_any (some ⟨g, o + 4, none⟩) 28 (c - 4) _ W (t4.below hb) (by omega) (by omega))
  have G8 := hide (fun W (hb : Below w.heap.size w W) => dget32_any (some ⟨g, o + 8, none⟩) 24 (c - 8) _ W (t8.below hb) (by omega) (by omega))
  have G12 := hide (fun W (hb : Below w.heap.size w W) => dget32_any (some ⟨g, o + 12, none⟩) 20 (c - 12) _ W (t12.below hb) (by omega) (by omega))
  have G16 := hide (fun W (hb : Below w.heap.size w W) => dget32_any (some ⟨g, o + 16, none⟩) 16 (c - 16) _ W (t16.below hb) (by omega) (by omega))
  have GS := hide (fun W (hb : Below w.heap.size w W) => sealed_any (some ⟨g, o, none⟩) 32 c _ W (h32.below hb) (by omega) (by omega))
  rw [hs] at GS
  have he : headV slot (pGen bytes) (pBlk bytes) (pRgen bytes) = #[.int .i64 slot, .int .u32 (get4 (List.drop 8 (List.take 32 bytes)) : Nat), .int .i64 (IntKind.i64.wrap (get4 (List.drop 12 (List.take 32 bytes)) : Nat)), .int .u32 (get4 (List.drop 16 (List.take 32 bytes)) : Nat)] := by
    have hw : IntKind.i64.wrap ((get4 (List.drop 12 (List.take 32 bytes)) : Nat) : Int) = ((get4 (List.drop 12 (List.take 32 bytes)) : Nat) : Int) := by
      have := get4_lt (List.drop 12 (List.take 32 bytes))
      rw [IntKind.wrap_i64]; omega
    rw [hw]
    rfl
  have HE := hide he
  clear he
  have q4 : ¬ c = 4 := by omega
  have q8 : ¬ c = 8 := by omega
  have q12 : ¬ c = 12 := by omega
  have q16 : ¬ c = 16 := by omega
  have r1 : (32 : Int) ≤ n := by omega
  have r2 : (n : Int) ≤ c := by have := h.2.1; omega
  have r3 : (32 : Int) ≤ c := by omega
  clear h h32 t4 t8 t12 t16 hA
  go_enter Tryz.func171, Tryz.ntmps171
  go_upto_region 2 with fail
  go_cut [6] (fun s6 wx => s6 = .pointer (some ⟨w.heap.size + 1, 0, none⟩) ∧ Blk wx (w.heap.size + 1) 149 (headV slot (pGen bytes) (pBlk bytes) (pRgen bytes)) ∧ Blk wx w.heap.size 149 (headV 0 0 0 0) ∧ Below w.heap.size w wx)
  case first =>
    go_wp2_with fail
    go_region_held3 (fun _ => True) (trivial) (first | (go_at_call 193; (with_reducible refine Calls.mono (G8.out _ ?_) ?_); (· first | exact ((Below.refl _ _).alloc (Nat.le_refl _) _).drew | exact (((Below.refl _ _).alloc (Nat.le_refl _) _).alloc (by simp) _).drew | exact (((Below.refl _ _).alloc (Nat.le_refl _) _).drew.alloc (by simp) _)); rintro e w' ⟨rfl, rfl⟩) | (go_at_call 193; (with_reducible refine Calls.mono (G12.out _ ?_) ?_); (· first | exact ((Below.refl _ _).alloc (Nat.le_refl _) _).drew | exact (((Below.refl _ _).alloc (Nat.le_refl _) _).alloc (by simp) _).drew | exact (((Below.refl _ _).alloc (Nat.le_refl _) _).drew.alloc (by simp) _)); rintro e w' ⟨rfl, rfl⟩) | (go_at_call 193; (with_reducible refine Calls.mono (G16.out _ ?_) ?_); (· first | exact ((Below.refl _ _).alloc (Nat.le_refl _) _).drew | exact (((Below.refl _ _).alloc (Nat.le_refl _) _).alloc (by simp) _).drew | exact (((Below.refl _ _).alloc (Nat.le_refl _) _).drew.alloc (by simp) _)); rintro e w' ⟨rfl, rfl⟩))
    all_goals
      go_wp2
      go_meet
      refine ⟨rfl, ?_, ?_, ?_⟩
      · rw [HE.out]; exact (Blk.new2 w _ _ _).drew
      · exact ((Blk.new w _ _).alloc _).drew
      · exact (((Below.refl _ _).alloc (Nat.le_refl _) _).alloc (by simp) _).drew
  case rest =>
    obtain ⟨rfl, hb6, hb4, hbel⟩ := hcut
    have c0 : wc.cell? ⟨w.heap.size + 1, 0, none⟩ = some (.int .i64 slot) := cellOf hb6 0 rfl
    have c1 : wc.cell? ⟨w.heap.size + 1, 1, none⟩ = some (.int .u32 (pGen bytes : Nat)) := cellOf hb6 1 rfl
    have c2 : wc.cell? ⟨w.heap.size + 1, 2, none⟩ = some (.int .i64 (pBlk bytes : Nat)) := cellOf hb6 2 rfl
    have c3 : wc.cell? ⟨w.heap.size + 1, 3, none⟩ = some (.int .u32 (pRgen bytes : Nat)) := cellOf hb6 3 rfl
    have d0 : wc.cell? ⟨w.heap.size, 0, none⟩ = some (.int .i64 0) := cellOf hb4 0 rfl
    have d1 : wc.cell? ⟨w.heap.size, 1, none⟩ = some (.int .u32 0) := cellOf hb4 1 rfl
    have d2 : wc.cell? ⟨w.heap.size, 2, none⟩ = some (.int .i64 0) := cellOf hb4 2 rfl
    have d3 : wc.cell? ⟨w.heap.size, 3, none⟩ = some (.int .u32 0) := cellOf hb4 3 rfl
    have f0 : wc.frozen? ⟨w.heap.size, 0, none⟩ = false := hb4.frozen 0
    have f1 : wc.frozen? ⟨w.heap.size, 1, none⟩ = false := hb4.frozen 1
    have f2 : wc.frozen? ⟨w.heap.size, 2, none⟩ = false := hb4.frozen 2
    have f3 : wc.frozen? ⟨w.heap.size, 3, none⟩ = false := hb4.frozen 3
    have HB4 := hide hb4
    have HBEL := hide hbel
    have HS0 : Hid (wc.drew.cell? ⟨w.heap.size + 1, 0, none⟩ = some (.int .i64 slot) ∧ wc.drew.cell? ⟨w.heap.size + 1, 1, none⟩ = some (.int .u32 (pGen bytes : Nat)) ∧ wc.drew.cell? ⟨w.heap.size + 1, 2, none⟩ = some (.int .i64 (pBlk bytes : Nat)) ∧ wc.drew.cell? ⟨w.heap.size + 1, 3, none⟩ = some (.int .u32 (pRgen bytes : Nat))) := ⟨c0, c1, c2, c3⟩
    have hz6 := hb6.lt
    have hS3 : ∀ {w3 : World} {k : Nat}, (wc.drew.drewN k).grownBy w3 (some w.heap.size) → w3.cell? ⟨w.heap.size + 1, 0, none⟩ = some (.int .i64 slot) ∧ w3.cell? ⟨w.heap.size + 1, 1, none⟩ = some (.int .u32 (pGen bytes : Nat)) ∧ w3.cell? ⟨w.heap.size + 1, 2, none⟩ = some (.int .i64 (pBlk bytes : Nat)) ∧ w3.cell? ⟨w.heap.size + 1, 3, none⟩ = some (.int .u32 (pRgen bytes : Nat)) := by
      intro w3 k hg
      have h := hg.block (w.heap.size + 1) hz6 (fun e => by injection e with e; omega)
      refine ⟨?_, ?_, ?_, ?_⟩ <;> rw [World.cell?_of_block h]
      · exact c0
      · exact c1
      · exact c2
      · exact c3
    clear hb4 hb6 hbel c0 c1 c2 c3 d0 d1 d2 d3 f0 f1 f2 f3
    go_wp2_with fail
    refine wp_region_held_drew (S := fun w' => w'.cell? ⟨w.heap.size + 1, 0, none⟩ = some (.int .i64 slot) ∧ w'.cell? ⟨w.heap.size + 1, 1, none⟩ = some (.int .u32 (pGen bytes : Nat)) ∧ w'.cell? ⟨w.heap.size + 1, 2, none⟩ = some (.int .i64 (pBlk bytes : Nat)) ∧ w'.cell? ⟨w.heap.size + 1, 3, none⟩ = some (.int .u32 (pRgen bytes : Nat))) (by kernel_rfl) HS0.out ?_
    intro hS0
    refine wpAnyH_takeD (i := 0) (v := (.agg #[.int .i64 slot, .int .u32 (pGen bytes : Nat), .int .i64 (pBlk bytes : Nat), .int .u32 (pRgen bytes : Nat)])) (some 22) rfl rfl (by kernel_rfl) (by kernel_rfl) (by kernel_rfl) (fun _ _ _ h => h) (Or.inl ⟨rfl, fun w' hSw => by obtain ⟨s0, s1, s2, s3⟩ := hSw; go_simp⟩) hS0 ?_
    simp only [Act.put, List.setIfInBounds_toArray, List.set_cons_zero, List.set_cons_succ]
    refine wpAnyH_takeD (i := 1) (v := (.slice (some ⟨g, o, none⟩) 32 c)) (some 23) rfl rfl (by kernel_rfl) (by kernel_rfl) (by kernel_rfl) (fun _ _ _ h => h) (Or.inl ⟨rfl, fun w' hSw => by go_simp⟩) hS0 ?_
    simp only [Act.put, List.setIfInBounds_toArray, List.set_cons_zero, List.set_cons_succ]
    refine wpAnyH_call (i := 2) (f := 194) (some 24) (by kernel_rfl) rfl rfl rfl (by go_simp) (GS.out _ HBEL.out.drew) (fun _ _ h => h) ?_
    rintro _ ⟨k, rfl⟩
    refine ⟨hS0, ?_⟩
    simp only [Act.put, List.setIfInBounds_toArray, List.set_cons_zero, List.set_cons_succ]
    refine wpAnyH_takeD (i := 3) (v := (.bool false)) (some 25) rfl rfl (by kernel_rfl) (by kernel_rfl) (by kernel_rfl) (fun _ _ _ h => h) (Or.inl ⟨rfl, fun w' hSw => by go_simp⟩) hS0 ?_
    simp only [Act.put, List.setIfInBounds_toArray, List.set_cons_zero, List.set_cons_succ]
    refine wpAnyH_takeD (i := 4) (v := undef) (some 26) rfl rfl (by kernel_rfl) (by kernel_rfl) (by kernel_rfl) (fun _ _ _ h => h) (Or.inr ⟨rfl, rfl⟩) hS0 ?_
    simp only [Act.put, List.setIfInBounds_toArray, List.set_cons_zero, List.set_cons_succ]
    refine wpAnyH_takeD (i := 5) (v := undef) (some 27) rfl rfl (by kernel_rfl) (by kernel_rfl) (by kernel_rfl) (fun _ _ _ h => h) (Or.inr ⟨rfl, rfl⟩) hS0 ?_
    simp only [Act.put, List.setIfInBounds_toArray, List.set_cons_zero, List.set_cons_succ]
    refine wpAnyH_takeD (i := 6) (v := undef) (some 28) rfl rfl (by kernel_rfl) (by kernel_rfl) (by kernel_rfl) (fun _ _ _ h => h) (Or.inr ⟨rfl, rfl⟩) hS0 ?_
    simp only [Act.put, List.setIfInBounds_toArray, List.set_cons_zero, List.set_cons_succ]
    refine wpAnyH_takeD (i := 7) (v := undef) (some 29) rfl rfl (by kernel_rfl) (by kernel_rfl) (by kernel_rfl) (fun _ _ _ h => h) (Or.inr ⟨rfl, rfl⟩) hS0 ?_
    simp only [Act.put, List.setIfInBounds_toArray, List.set_cons_zero, List.set_cons_succ]
    refine wpAnyH_takeD (i := 8) (v := (.bool false)) (some 30) rfl rfl (by kernel_rfl) (by kernel_rfl) (by kernel_rfl) (fun _ _ _ h => h) (Or.inl ⟨rfl, fun w' hSw => by go_simp⟩) hS0 ?_
    simp only [Act.put, List.setIfInBounds_toArray, List.set_cons_zero, List.set_cons_succ]
    refine wpAnyH_takeD (i := 9) (v := (.bool false)) (some 31) rfl rfl (by kernel_rfl) (by kernel_rfl) (by kernel_rfl) (fun _ _ _ h => h) (Or.inl ⟨rfl, fun w' hSw => by go_simp⟩) hS0 ?_
    simp only [Act.put, List.setIfInBounds_toArray, List.set_cons_zero, List.set_cons_succ]
    refine wpAnyH_takeD (i := 10) (v := undef) (some 32) rfl rfl (by kernel_rfl) (by kernel_rfl) (by kernel_rfl) (fun _ _ _ h => h) (Or.inr ⟨rfl, rfl⟩) hS0 ?_
    simp only [Act.put, List.setIfInBounds_toArray, List.set_cons_zero, List.set_cons_succ]
    refine wpAnyH_takeD (i := 11) (v := undef) (some 33) rfl rfl (by kernel_rfl) (by kernel_rfl) (by kernel_rfl) (fun _ _ _ h => h) (Or.inr ⟨rfl, rfl⟩) hS0 ?_
    simp only [Act.put, List.setIfInBounds_toArray, List.set_cons_zero, List.set_cons_succ]
    refine wpAnyH_takeD (i := 12) (v := undef) (some 34) rfl rfl (by kernel_rfl) (by kernel_rfl) (by kernel_rfl) (fun _ _ _ h => h) (Or.inr ⟨rfl, rfl⟩) hS0 ?_
    simp only [Act.put, List.setIfInBounds_toArray, List.set_cons_zero, List.set_cons_succ]
    refine wpAnyH_takeD (i := 13) (v := (.bool false)) (some 35) rfl rfl (by kernel_rfl) (by kernel_rfl) (by kernel_rfl) (fun _ _ _ h => h) (Or.inl ⟨rfl, fun w' hSw => by go_simp⟩) hS0 ?_
    simp only [Act.put, List.setIfInBounds_toArray, List.set_cons_zero, List.set_cons_succ]
    refine wpAnyH_takeD (i := 14) (v := (.bool false)) (some 36) rfl rfl (by kernel_rfl) (by kernel_rfl) (by kernel_rfl) (fun _ _ _ h => h) (Or.inl ⟨rfl, fun w' hSw => by go_simp⟩) hS0 ?_
    simp only [Act.put, List.setIfInBounds_toArray, List.set_cons_zero, List.set_cons_succ]
    refine wpAnyH_takeD (i := 15) (v := undef) (some 37) rfl rfl (by kernel_rfl) (by kernel_rfl) (by kernel_rfl) (fun _ _ _ h => h) (Or.inr ⟨rfl, rfl⟩) hS0 ?_
    simp only [Act.put, List.setIfInBounds_toArray, List.set_cons_zero, List.set_cons_succ]
    refine wpAnyH_takeD (i := 16) (v := undef) (some 38) rfl rfl (by kernel_rfl) (by kernel_rfl) (by kernel_rfl) (fun _ _ _ h => h) (Or.inr ⟨rfl, rfl⟩) hS0 ?_
    simp only [Act.put, List.setIfInBounds_toArray, List.set_cons_zero, List.set_cons_succ]
    refine wpAnyH_takeD (i := 17) (v := undef) (some 39) rfl rfl (by kernel_rfl) (by kernel_rfl) (by kernel_rfl) (fun _ _ _ h => h) (Or.inr ⟨rfl, rfl⟩) hS0 ?_
    simp only [Act.put, List.setIfInBounds_toArray, List.set_cons_zero, List.set_cons_succ]
    refine wpAnyH_takeD (i := 18) (v := (.bool false)) (some 40) rfl rfl (by kernel_rfl) (by kernel_rfl) (by kernel_rfl) (fun _ _ _ h => h) (Or.inl ⟨rfl, fun w' hSw => by go_simp⟩) hS0 ?_
    simp only [Act.put, List.setIfInBounds_toArray, List.set_cons_zero, List.set_cons_succ]
    refine wpAnyH_takeD (i := 19) (v := (.bool false)) (some 41) rfl rfl (by kernel_rfl) (by kernel_rfl) (by kernel_rfl) (fun _ _ _ h => h) (Or.inl ⟨rfl, fun w' hSw => by go_simp⟩) hS0 ?_
    simp only [Act.put, List.setIfInBounds_toArray, List.set_cons_zero, List.set_cons_succ]
    refine wpAnyH_takeD (i := 20) (v := undef) (some 42) rfl rfl (by kernel_rfl) (by kernel_rfl) (by kernel_rfl) (fun _ _ _ h => h) (Or.inr ⟨rfl, rfl⟩) hS0 ?_
    simp only [Act.put, List.setIfInBounds_toArray, List.set_cons_zero, List.set_cons_succ]
    refine wpAnyH_takeD (i := 21) (v := undef) (some 43) rfl rfl (by kernel_rfl) (by kernel_rfl) (by kernel_rfl) (fun _ _ _ h => h) (Or.inr ⟨rfl, rfl⟩) hS0 ?_
    simp only [Act.put, List.setIfInBounds_toArray, List.set_cons_zero, List.set_cons_succ]
    refine wpAnyH_takeD (i := 22) (v := undef) (some 44) rfl rfl (by kernel_rfl) (by kernel_rfl) (by kernel_rfl) (fun _ _ _ h => h) (Or.inr ⟨rfl, rfl⟩) hS0 ?_
    simp only [Act.put, List.setIfInBounds_toArray, List.set_cons_zero, List.set_cons_succ]
    refine wpAnyH_takeD (i := 23) (v := undef) (some 45) rfl rfl (by kernel_rfl) (by kernel_rfl) (by kernel_rfl) (fun _ _ _ h => h) (Or.inr ⟨rfl, rfl⟩) hS0 ?_
    simp only [Act.put, List.setIfInBounds_toArray, List.set_cons_zero, List.set_cons_succ]
    refine wpAnyH_takeD (i := 24) (v := undef) (some 46) rfl rfl (by kernel_rfl) (by kernel_rfl) (by kernel_rfl) (fun _ _ _ h => h) (Or.inr ⟨rfl, rfl⟩) hS0 ?_
    simp only [Act.put, List.setIfInBounds_toArray, List.set_cons_zero, List.set_cons_succ]
    refine wpAnyH_takeD (i := 25) (v := undef) (some 47) rfl rfl (by kernel_rfl) (by kernel_rfl) (by kernel_rfl) (fun _ _ _ h => h) (Or.inr ⟨rfl, rfl⟩) hS0 ?_
    simp only [Act.put, List.setIfInBounds_toArray, List.set_cons_zero, List.set_cons_succ]
    refine wpAnyH_takeD (i := 26) (v := undef) (some 48) rfl rfl (by kernel_rfl) (by kernel_rfl) (by kernel_rfl) (fun _ _ _ h => h) (Or.inr ⟨rfl, rfl⟩) hS0 ?_
    simp only [Act.put, List.setIfInBounds_toArray, List.set_cons_zero, List.set_cons_succ]
    refine wpAnyH_takeD (i := 27) (v := undef) (some 49) rfl rfl (by kernel_rfl) (by kernel_rfl) (by kernel_rfl) (fun _ _ _ h => h) (Or.inr ⟨rfl, rfl⟩) hS0 ?_
    simp only [Act.put, List.setIfInBounds_toArray, List.set_cons_zero, List.set_cons_succ]
    refine wpAnyH_takeD (i := 28) (v := undef) (some 50) rfl rfl (by kernel_rfl) (by kernel_rfl) (by kernel_rfl) (fun _ _ _ h => h) (Or.inr ⟨rfl, rfl⟩) hS0 ?_
    simp only [Act.put, List.setIfInBounds_toArray, List.set_cons_zero, List.set_cons_succ]
    refine wpAnyH_takeD (i := 29) (v := undef) (some 51) rfl rfl (by kernel_rfl) (by kernel_rfl) (by kernel_rfl) (fun _ _ _ h => h) (Or.inr ⟨rfl, rfl⟩) hS0 ?_
    simp only [Act.put, List.setIfInBounds_toArray, List.set_cons_zero, List.set_cons_succ]
    refine wpAnyH_takeD (i := 30) (v := (.bool false)) (some 52) rfl rfl (by kernel_rfl) (by kernel_rfl) (by kernel_rfl) (fun _ _ _ h => h) (Or.inl ⟨rfl, fun w' hSw => by go_simp⟩) hS0 ?_
    simp only [Act.put, List.setIfInBounds_toArray, List.set_cons_zero, List.set_cons_succ]
    refine wpAnyH_one (i := 31) (by kernel_rfl) rfl rfl ?_
    refine wp_store_sz 149 (.tmp 4) (.tmp 22) rfl w.heap.size 0 (headV slot (pGen bytes) (pBlk bytes) (pRgen bytes)).toList rfl rfl 149 (headV 0 0 0 0).toList (HB4.out.drew.drewN k) (Nat.le_refl _) size_head (headV_one _ _ _ _) ?_
    intro w3 hb3 hg3 hs3
    refine ⟨hS3 hg3, ?_⟩
    change wpAnyH _ _ _ _ _ _ _ (Act.put _ none undef) _
    simp only [Act.put]
    refine wpAnyH_val (i := 32) (w' := w3) (v := (.bool false)) (some 5) (by kernel_rfl) rfl rfl rfl (by go_simp) (hS3 hg3) ?_
    simp only [Act.put, List.setIfInBounds_toArray, List.set_cons_zero, List.set_cons_succ]
    refine wpAnyH_done (by kernel_rfl) ?_ _
    go_wp2
    have hb3' : Blk w3 w.heap.size 149 (headV slot (pGen bytes) (pBlk bytes) (pRgen bytes)) := by rw [spl_all (L := (headV 0 0 0 0).toList) (cs := (headV slot (pGen bytes) (pBlk bytes) (pRgen bytes)).toList) rfl] at hb3; exact hb3
    have p0 := cellOf hb3' 0 rfl
    have p1 := cellOf hb3' 1 rfl
    have p2 := cellOf hb3' 2 rfl
    have p3 := cellOf hb3' 3 rfl
    exact bodyPost_ret (v := .tuple #[.agg (headV slot (pGen bytes) (pBlk bytes) (pRgen bytes)), (.bool false)]) (by simp [results, Tryz.results171, go_sem, p0, p1, p2, p3]; rfl) rfl ⟨rfl, (below_drewN HBEL.out.drew k).grown hg3 HBEL.out.size fun g' e => by injection e with e; omega⟩
end Go.Proofs.YtemondlgcmpbbaaGreatDoor
