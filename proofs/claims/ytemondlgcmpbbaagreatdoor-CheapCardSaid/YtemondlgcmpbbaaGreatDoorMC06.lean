/- Dd Va: merged. -/
import Derived.Test.YtemondlgcmpbbaaGreatDoorMC05
import Derived.Deep.DeepCutAuto
import Derived.Deep.LoopGhost
import Derived.Deep.RegionHeld3
/- Walks: Disk.Flush. -/
namespace Go.Proofs.YtemondlgcmpbbaaGreatDoor
open Go.RowKit

/-- What is sure behind a flush. -/
def dset (bytes : List UInt8) (x : Nat × List UInt8) : List UInt8 := bytes.take (x.1 * 128) ++ x.2 ++ bytes.drop (x.1 * 128 + 128)
def dflush (bytes : List UInt8) (cache : List (Nat × List UInt8)) : List UInt8 := cache.foldl dset bytes
theorem dset_length {bytes : List UInt8} {n : Nat} {x : Nat × List UInt8} (h : bytes.length = n * 128) (h1 : x.1 < n) (h2 : x.2.length = 128) : (dset bytes x).length = n * 128 := by
  unfold dset
  simp only [List.length_append, List.length_take, List.length_drop]
  omega
theorem dflush_length {n : Nat} : ∀ (cache : List (Nat × List UInt8)) (bytes : List UInt8), bytes.length = n * 128 → (∀ x ∈ cache, x.1 < n ∧ x.2.length = 128) → (dflush bytes cache).length = n * 128
  | [], _, h, _ => h
  | x :: l, bytes, h, hc => dflush_length l (dset bytes x) (dset_length h (hc x (by simp)).1 (hc x (by simp)).2) fun y hy => hc y (by simp [hy])
theorem dflush_snoc (bytes : List UInt8) (cache : List (Nat × List UInt8)) (k : Nat) (h : k < cache.length) : dflush bytes (cache.take (k + 1)) = dset (dflush bytes (cache.take k)) cache[k] := by
  unfold dflush
  rw [List.take_succ_eq_append_getElem h, List.foldl_append]
  rfl
theorem bc_dset {bytes : List UInt8} {_n : Nat} {x : Nat × List UInt8} (h2 : x.2.length = 128) : spl (bc bytes) (x.1 * 128) (bc x.2) = bc (dset bytes x) := by
  unfold spl dset
  rw [bc_app, bc_app, bc_take, bc_drop, bc_length, h2]

set_option maxRecDepth 100000 in
set_option maxHeartbeats 1000000 in
theorem flush_any (b n g base q : Nat) (cv : Value) (m : Nums) (bytes : List UInt8) (cache : List (Nat × List UInt8)) (w : World) (h : DkAt w b (.slice (some ⟨g, 0, none⟩) n n) cv m) (hs : m.small) (hb : m.bad = false) (_hn : n ≤ 1000)
    (hg : Blk w g 111 (bc bytes).toArray) (hlen : bytes.length = n * 128) (hcv : w.ownsRow base 113 129 cv q (ccells cache)) (hc : ∀ x ∈ cache, x.1 < n ∧ x.2.length = 128) (hq : cache.length = q) (hq2 : q ≤ 100000) :
    Calls Tryz.prog 238 #[.pointer (some ⟨b, 0, none⟩)] w fun e w' => e = .returned .nilIface ∧ DkAt w' b (.slice (some ⟨g, 0, none⟩) n n) (.slice none 0 0) m.tick ∧
      Blk w' g 111 (bc (dflush bytes cache)).toArray ∧ Only (fun x => x = b ∨ x = g) w w' := by
  obtain ⟨Ac, cc, rfl, hqc, hcc, hown, hno⟩ := ownN_form hcv
  have HOWN := hide hown
  have HNO := hide hno
  have HF := hide (fails_any b (.slice (some ⟨g, 0, none⟩) n n) _ m w h hs)
  rw [hb] at HF
  have HM := hide hs
  have HB := hide hb
  have HNE := hide (disk_ne h (T := 111) (by decide))
  have HNE2 := hide (disk_ne h (T := 113) (by decide))
  have HD := hide h
  have HCV := hide hcv
  have HG := hide hg
  have HL := hide hlen
  have HC := hide hc
  have HQ := hide hq
  clear hown hno hs hb h hcv hg hlen hc hq
  go_enter Tryz.func238, Tryz.ntmps238
  go_wp2_with (first
    | (go_at_call 241; refine HF.out.mono ?_; rintro e w1 ⟨rfl, hd1, ho1⟩; have HD1 := hide hd1; have c01 : w1.cell? ⟨b, 0, none⟩ = some (.slice (some ⟨g, 0, none⟩) n n) := cellOf hd1 0 rfl; have c02 : w1.cell? ⟨b, 1, none⟩ = some (.slice Ac q cc) := cellOf hd1 1 rfl; have HG1 := hide (ho1.blk HG.out (HNE.out _ _ HG.out)); clear hd1))
  have hbg : b ≠ g := HD1.out.ne_ HG1.out (by decide)
  have hbl : b < w1.heap.size := HD1.out.lt
  have hgl : g < w1.heap.size := HG1.out.lt
  go_loopw [13] (fun v wr => ∃ k : Nat, k ≤ q ∧ v = .int .i64 k ∧ Blk wr g 111 (bc (dflush bytes (cache.take k))).toArray ∧ Only (fun x => x = g) w1 wr) (fun v _ => q - (intOf v).toNat)
  case atStart => exact ⟨0, Nat.zero_le _, rfl, by rw [List.take_zero]; exact HG1.out, Only.refl _ _⟩
  case round =>
    obtain ⟨k, hk, rfl, hbk, hok⟩ := hrel
    have hdr : DkAt wr b (.slice (some ⟨g, 0, none⟩) n n) (.slice Ac q cc) m.tick := HD1.out.only hok hbg
    have r0 : wr.cell? ⟨b, 0, none⟩ = some (.slice (some ⟨g, 0, none⟩) n n) := cellOf hdr 0 rfl
    have HDR := hide hdr
    have HBK := hide hbk
    have HOK := hide hok
    clear hbk hok hdr c01 c02
    by_cases hlt : k < q
    · have hkl : k < cache.length := by rw [HQ.out]; exact hlt
      obtain ⟨gc, cur, rfl, hgc, htk⟩ : ∃ gc cur, Ac = some ⟨gc, 0, none⟩ ∧ Blk w gc 113 cur ∧ cur.toList.take (q * 129) = ccells cache := by
        cases Ac with
        | none => have := (HNO.out rfl).1; omega
        | some a =>
          obtain ⟨_, _, e, cur, hb, _, ht⟩ := HOWN.out a.block rfl
          exact ⟨a.block, cur, e, hb, ht⟩
      have hwr : Blk wr gc 113 cur.toList.toArray := HOK.out.blk (ho1.blk hgc (HNE2.out _ _ hgc)) (fun e => by subst e; exact Blk.ne_ hgc HG.out (by decide) rfl)
      obtain ⟨x, hx⟩ : ∃ x, x = cache[k] := ⟨_, rfl⟩
      have hxl : x.1 < n ∧ x.2.length = 128 := by rw [hx]; exact HC.out _ (List.getElem_mem hkl)
      have hwl : (wcells x).length = 129 := by rw [wcells_length, hxl.2]
      have hrg : wr.rangeAt gc (k * 129) (wcells x) := hwr.range (by
        rw [hwl, hx, ← ccells_at cache k hkl (fun y hy => (HC.out y hy).2), ← htk, take_drop_take _ _ _ _ (by omega)])
      have cw0 : (wr.alloc (.cells (wcells x).toArray 113)).cell? ⟨wr.heap.size, 0, none⟩ = some (.int .i64 x.1) := cellOf (Blk.new wr _ _) 0 rfl
      have r01 := fun o1 => cellA o1 r0
      have hsz : (Tryz.prog.info? 113).map (·.size) = some (wcells x).length := by rw [size_write, hwl]
      have hdl : (dflush bytes (cache.take k)).length = n * 128 := dflush_length _ _ HL.out fun y hy => HC.out y (List.mem_of_mem_take hy)
      have HX := hide hx
      have HXL := hide hxl
      have HRGW := hide hrg
      have HSZ := hide hsz
      have HWL := hide hwl
      have HDL := hide hdl
      have k1 : (0 : Int) ≤ (k : Int) := by omega
      have k2 : (k : Int) < (q : Int) := by omega
      have k3 : (q : Int) ≤ 100000 := by omega
      have x1 : (0 : Int) ≤ (x.1 : Int) := by omega
      have x2 : (x.1 : Int) < (n : Int) := by have := hxl.1; omega
      have ua := Tryz.underlying111
      have hr24 : (wr.alloc (.cells (wcells x).toArray 113)).drew.rangeAt wr.heap.size 1 (bc x.2) := (Blk.new wr 113 (wcells x).toArray).drew.range (o := 1) (cs := bc x.2) (by show ((bc x.2).drop 0).take (bc x.2).length = bc x.2; rw [List.drop_zero, List.take_length])
      have hsa : (Tryz.prog.info? 111).map (·.size) = some (bc x.2).length := by rw [size_arr, bc_length, hxl.2]
      have HR24 := hide hr24
      have HSA := hide hsa
      clear hx hxl hrg hsz hwl hwr htk hdl hr24 hsa
      go_wp2_with (first
          | (refine wpList_load_mid rfl 113 (.tmp 15) rfl gc (k * 129) rfl (wcells x) _ HRGW.out Tryz.underlying113 rfl HSZ.out ?_)
          | (refine wpList_store_new rfl 113 (.tmp 4) (.tmp 16) rfl wr _ _ (wcells x) rfl rfl (by rw [HWL.out, zc_write]; simp [bc]) HSZ.out (wcells_one _) ?_))
      have hw0 : (wr.alloc (.cells (wcells x).toArray 113)).drew.cell? ⟨b, 0, none⟩ = some (.slice (some ⟨g, 0, none⟩) n n) := cellA _ r0
      refine wp_region_held_drew (S := fun w' => w'.cell? ⟨b, 0, none⟩ = some (.slice (some ⟨g, 0, none⟩) n n) ∧ w'.cell? ⟨wr.heap.size, 0, none⟩ = some (.int .i64 x.1) ∧ w'.rangeAt wr.heap.size 1 (bc x.2)) (by kernel_rfl) ⟨hw0, cw0, HR24.out⟩ ?_
      intro hS0
      refine wpAnyH_takeD (i := 0) (v := (.pointer (some ⟨b, 0, none⟩))) (some 17) rfl rfl (by kernel_rfl) (by kernel_rfl) (by kernel_rfl) (fun _ _ _ h => h) (Or.inl ⟨rfl, fun w' hSw => by go_simp⟩) hS0 ?_
      simp only [Act.put, List.setIfInBounds_toArray, List.set_cons_zero, List.set_cons_succ]
      refine wpAnyH_takeD (i := 1) (v := (.pointer (some ⟨b, 0, none⟩))) (some 18) rfl rfl (by kernel_rfl) (by kernel_rfl) (by kernel_rfl) (fun _ _ _ h => h) (Or.inl ⟨rfl, fun w' hSw => by go_simp⟩) hS0 ?_
      simp only [Act.put, List.setIfInBounds_toArray, List.set_cons_zero, List.set_cons_succ]
      refine wpAnyH_takeD (i := 2) (v := (.pointer (some ⟨b, 0, none⟩))) (some 19) rfl rfl (by kernel_rfl) (by kernel_rfl) (by kernel_rfl) (fun _ _ _ h => h) (Or.inl ⟨rfl, fun w' hSw => by go_simp⟩) hS0 ?_
      simp only [Act.put, List.setIfInBounds_toArray, List.set_cons_zero, List.set_cons_succ]
      refine wpAnyH_takeD (i := 3) (v := (.slice (some ⟨g, 0, none⟩) n n)) (some 20) rfl rfl (by kernel_rfl) (by kernel_rfl) (by kernel_rfl) (fun _ _ _ h => h) (Or.inl ⟨rfl, fun w' hSw => by have h1 := hSw.1; clear hSw; go_simp⟩) hS0 ?_
      simp only [Act.put, List.setIfInBounds_toArray, List.set_cons_zero, List.set_cons_succ]
      refine wpAnyH_takeD (i := 4) (v := (.pointer (some ⟨wr.heap.size, 0, none⟩))) (some 21) rfl rfl (by kernel_rfl) (by kernel_rfl) (by kernel_rfl) (fun _ _ _ h => h) (Or.inl ⟨rfl, fun w' hSw => by go_simp⟩) hS0 ?_
      simp only [Act.put, List.setIfInBounds_toArray, List.set_cons_zero, List.set_cons_succ]
      refine wpAnyH_takeD (i := 5) (v := (.int .i64 x.1)) (some 22) rfl rfl (by kernel_rfl) (by kernel_rfl) (by kernel_rfl) (fun _ _ _ h => h) (Or.inl ⟨rfl, fun w' hSw => by have h1 := hSw.2.1; clear hSw; go_simp⟩) hS0 ?_
      simp only [Act.put, List.setIfInBounds_toArray, List.set_cons_zero, List.set_cons_succ]
      refine wpAnyH_takeD (i := 6) (v := (.pointer (some ⟨wr.heap.size, 1, none⟩))) (some 23) rfl rfl (by kernel_rfl) (by kernel_rfl) (by kernel_rfl) (fun _ _ _ h => h) (Or.inl ⟨rfl, fun w' hSw => by go_simp⟩) hS0 ?_
      simp only [Act.put, List.setIfInBounds_toArray, List.set_cons_zero, List.set_cons_succ]
      refine wpAnyH_takeD (i := 7) (v := .agg (bc x.2).toArray) (some 24) rfl rfl (by kernel_rfl) (by kernel_rfl) (by kernel_rfl) (fun _ _ _ h => h) (yieldsIf_load_mid rfl _ _ rfl wr.heap.size 1 rfl _ _ (fun _ h => h.2.2) Tryz.underlying111 rfl HSA.out) hS0 ?_
      simp only [Act.put, List.setIfInBounds_toArray, List.set_cons_zero, List.set_cons_succ]
      refine wpAnyH_takeD (i := 8) (v := (.pointer (some ⟨g, x.1 * 128, none⟩))) (some 25) rfl rfl (by kernel_rfl) (by kernel_rfl) (by kernel_rfl) (fun _ _ _ h => h) (Or.inl ⟨rfl, fun w' hSw => by clear hSw; go_simp⟩) hS0 ?_
      simp only [Act.put, List.setIfInBounds_toArray, List.set_cons_zero, List.set_cons_succ]
      refine wpAnyH_one (i := 9) (by kernel_rfl) rfl rfl ?_
      refine wp_store_sz 111 (.tmp 25) (.tmp 24) rfl g (x.1 * 128) (bc x.2) rfl rfl 111 (bc (dflush bytes (cache.take k))) ((HBK.out.alloc _).drew) (by rw [bc_length, bc_length, HXL.out.2, HDL.out]; have := HXL.out.1; omega) HSA.out (bc_one _) ?_
      intro w3 hb3 hg3 hs3
      have hg3' : ∀ {y : Nat}, y ≠ g → some y ≠ some g := fun h e => h (by injection e)
      have hgr : g < wr.heap.size := HBK.out.lt
      have hSl : w3.cell? ⟨b, 0, none⟩ = some (.slice (some ⟨g, 0, none⟩) n n) ∧ w3.cell? ⟨wr.heap.size, 0, none⟩ = some (.int .i64 x.1) ∧ w3.rangeAt wr.heap.size 1 (bc x.2) := by
        have hzz : (wr.alloc (.cells (wcells x).toArray 113)).drew.heap.size = wr.heap.size + 1 := World.size_alloc _ _
        refine ⟨?_, ?_, fun j v hv => ?_⟩
        · rw [World.cell?_of_block (hg3.block b (by rw [hzz]; have := HDR.out.lt; omega) (hg3' hbg))]; exact hw0
        · rw [World.cell?_of_block (hg3.block wr.heap.size (by rw [hzz]; omega) (hg3' (by omega)))]; exact cw0
        · rw [World.cell?_of_block (hg3.block wr.heap.size (by rw [hzz]; omega) (hg3' (by omega)))]; exact HR24.out j v hv
      refine ⟨hSl, ?_⟩
      refine wpAnyH_done (by kernel_rfl) ?_ _
      have HB3 := hide hb3
      have HG3 := hide hg3
      clear hb3 hg3 hs3 hg3' hSl hS0 hw0
      change Exit.inBlock _ _ _ (Act.put _ none undef) _
      simp only [Act.put]
      go_wp2
      go_roundw
      case rel =>
        refine ⟨k + 1, by omega, by go_num, ?_, Only.grown ((HOK.out.alloc _).drew) HG3.out fun g' hg' => .inl (by injection hg' with hg'; exact hg'.symm)⟩
        rw [dflush_snoc bytes cache k hkl, ← HX.out, ← bc_dset (_n := n) HXL.out.2]
        exact HB3.out
      case measure => simp [intOf]; omega
    · have hnl : ¬ ((k : Int) < (q : Int)) := by omega
      have r1 : wr.cell? ⟨b, 1, none⟩ = some (.slice Ac q cc) := cellOf HDR.out 1 rfl
      have f1 : wr.frozen? ⟨b, 1, none⟩ = false := HDR.out.frozen 1
      go_wp2
      go_ret
      have hkq : k = q := by omega
      refine ⟨rfl, HDR.out.set_ 1 _, ?_, ?_⟩
      · have := HBK.out
        rw [hkq, ← HQ.out, List.take_length] at this
        exact this.far (by exact hbg.symm) _
      · exact (Only.trans' (ho1.mono fun _ _ h => Or.inl h) HOK.out fun _ _ h => Or.inr h).setCell (.inl (.inl rfl)) _
end Go.Proofs.YtemondlgcmpbbaaGreatDoor

/- Walks: the device behind its interface: volume.read, write, flush; Fits. -/
namespace Go.Proofs.YtemondlgcmpbbaaGreatDoor
open Go.RowKit

theorem m_blocks (a : Value) (w : World) : (Go.method 431 23 a "Blocks").run Tryz.prog w = .ok (237, a) w := by kernel_rfl
theorem m_read (a : Value) (w : World) : (Go.method 431 23 a "Read").run Tryz.prog w = .ok (239, a) w := by kernel_rfl
theorem m_write (a : Value) (w : World) : (Go.method 431 23 a "Write").run Tryz.prog w = .ok (240, a) w := by kernel_rfl
theorem m_flush (a : Value) (w : World) : (Go.method 431 23 a "Flush").run Tryz.prog w = .ok (238, a) w := by kernel_rfl
theorem check_nil (w : World) : Calls Tryz.prog 133 #[.nilIface] w fun e w' => e = .returned (.tuple #[]) ∧ w = w' := by
  go_enter Tryz.func133, Tryz.ntmps133
  go_wp2
  go_end0
  exact ⟨rfl, rfl⟩

/-- The volume over the disk at b. -/
def vol (b : Nat) : Value := .agg #[.iface 23 (.pointer (some ⟨b, 0, none⟩))]

set_option maxRecDepth 100000 in
theorem fits_any (b n c : Nat) (A : Option Addr) (cv : Value) (m : Nums) (w : World) (h : DkAt w b (.slice A n c) cv m) (hn : n ≤ 1000) :
    Calls Tryz.prog 103 #[.iface 23 (.pointer (some ⟨b, 0, none⟩))] w fun e w' => e = .returned (.bool (decide (8 ≤ n) && decide (n ≤ 400))) ∧ w = w' := by
  have HB := hide (blocks_any b n c A cv m w h)
  have mB := m_blocks
  clear h
  by_cases h1 : 8 ≤ n
  · have q1 : (8 : Int) ≤ n := by omega
    by_cases h2 : n ≤ 400
    · have q2 : (n : Int) ≤ 400 := by omega
      go_enter Tryz.func103, Tryz.ntmps103
      go_wp2_with (go_at_call 237; refine HB.out.mono ?_; rintro e w' ⟨rfl, rfl⟩)
      go_ret
      exact ⟨rBool (by simp [h1, h2]), rfl⟩
    · have q2 : ¬ (n : Int) ≤ 400 := by omega
      go_enter Tryz.func103, Tryz.ntmps103
      go_wp2_with (go_at_call 237; refine HB.out.mono ?_; rintro e w' ⟨rfl, rfl⟩)
      go_ret
      exact ⟨rBool (by simp [h2]; omega), rfl⟩
  · have q1 : ¬ (8 : Int) ≤ n := by omega
    go_enter Tryz.func103, Tryz.ntmps103
    go_wp2_with (go_at_call 237; refine HB.out.mono ?_; rintro e w' ⟨rfl, rfl⟩)
    go_ret
    exact ⟨rBool (by simp []), rfl⟩

/-- Its numbers are at most K. -/
def Nums.sm (m : Nums) (K : Nat) : Prop := 0 ≤ m.calls ∧ m.calls ≤ K ∧ 0 ≤ m.writes ∧ m.writes ≤ K ∧ 0 ≤ m.told ∧ m.told ≤ K
/-- Far from the edge. -/
def edge : Nat := 4611686018427387904
theorem Nums.sm.small {m : Nums} {K : Nat} (h : m.sm K) (hK : K ≤ edge) : m.small := by
  unfold edge at hK
  obtain ⟨h1, h2, h3, h4, h5, h6⟩ := h
  exact ⟨h1, by omega, h3, by omega, h5, by omega⟩
theorem Nums.sm.mono {m : Nums} {K K' : Nat} (h : m.sm K) (hK : K ≤ K') : m.sm K' := by
  obtain ⟨h1, h2, h3, h4, h5, h6⟩ := h
  exact ⟨h1, by omega, h3, by omega, h5, by omega⟩
theorem Nums.sm.tick {m : Nums} {K : Nat} (h : m.sm K) : m.tick.sm (K + 1) := by
  obtain ⟨h1, h2, h3, h4, h5, h6⟩ := h
  unfold Nums.tick Nums.sm
  simp only
  split <;> exact ⟨by omega, by omega, by omega, by omega, by omega, by omega⟩
def Nums.wrote (m : Nums) : Nums := { m.tick with writes := m.writes + 1 }
theorem Nums.sm.wrote {m : Nums} {K : Nat} (h : m.sm K) : m.wrote.sm (K + 1) := by
  have := h.tick
  obtain ⟨h1, h2, h3, h4, h5, h6⟩ := h
  obtain ⟨k1, k2, k3, k4, k5, k6⟩ := this
  exact ⟨k1, k2, show 0 ≤ m.writes + 1 by omega, show m.writes + 1 ≤ _ by omega, k5, k6⟩

/-- A disk in memory: its struct, its blocks, what waits to be flushed. -/
structure Dk (w : World) (K b g base n : Nat) (cv : Value) (m : Nums) (bytes : List UInt8) (cache : List (Nat × List UInt8)) : Prop where
  at_ : DkAt w b (.slice (some ⟨g, 0, none⟩) n n) cv m
  blk : Blk w g 111 (bc bytes).toArray
  len : bytes.length = n * 128
  own : w.ownsRow base 113 129 cv cache.length (ccells cache)
  ok : ∀ x ∈ cache, x.1 < n ∧ x.2.length = 128
  many : cache.length ≤ 90000
  num : m.sm K
  fits : n ≤ 1000
  base_ : base ≤ w.heap.size
/-- The blocks of a disk that may change. -/
def dfp (b g : Nat) (cv : Value) : Nat → Prop := fun x => x = b ∨ x = g ∨ some x = cv.ownBlock

section
variable {w w' : World} {K b g base n : Nat} {cv : Value} {m : Nums} {bytes : List UInt8} {cache : List (Nat × List UInt8)}
theorem Dk.only {fp : Nat → Prop} (h : Dk w K b g base n cv m bytes cache) (ho : Only fp w w') (hf : ∀ x, dfp b g cv x → ¬ fp x) : Dk w' K b g base n cv m bytes cache := by
  refine ⟨h.at_.only ho (hf b (.inl rfl)), h.blk.only ho (hf g (.inr (.inl rfl))), h.len, ?_, h.ok, h.many, h.num, h.fits, Nat.le_trans h.base_ ho.size⟩
  refine ⟨h.own.1, ?_⟩
  rcases h.own.2 with h0 | ⟨g', cap, cur, hv, hb, hg, hr⟩
  · exact .inl h0
  · exact .inr ⟨g', cap, cur, hv, hb, ho.blk (t := 113) hg (hf g' (.inr (.inr (by rw [hv]; rfl)))), hr⟩
theorem Dk.below (h : Dk w K b g base n cv m bytes cache) (hb : Below w.heap.size w w') : Dk w' K b g base n cv m bytes cache := h.only (fp := fun _ => False) (Only.of_below hb) fun _ _ k => k
theorem Dk.drew (h : Dk w K b g base n cv m bytes cache) : Dk w.drew K b g base n cv m bytes cache := h.below (Below.drew (Below.refl _ _))
theorem Dk.lt (h : Dk w K b g base n cv m bytes cache) {x : Nat} (hx : dfp b g cv x) : x < w.heap.size := by
  rcases hx with rfl | rfl | hx
  · exact h.at_.lt
  · exact h.blk.lt
  · exact (ownN_lt h.own hx.symm).2
end

set_option maxRecDepth 100000 in
set_option maxHeartbeats 1000000 in
theorem vread_any (K b g base n i : Nat) (cv : Value) (m : Nums) (bytes : List UInt8) (cache : List (Nat × List UInt8)) (w : World) (h : Dk w K b g base n cv m bytes cache) (hb : m.bad = false) (hi : i < n) (hK : K < edge) :
    Calls Tryz.prog 172 #[vol b, .int .i64 i] w fun e w' => ∃ g', e = .returned (.slice (some ⟨g', 0, none⟩) 128 128) ∧ Dk w' (K + 1) b g base n cv m.tick bytes cache ∧
      Blk w' g' 5 (bc (dread bytes cache i)).toArray ∧ w.heap.size ≤ g' ∧ Only (fun x => x = b) w w' := by
  have h' := h.below ((Below.refl _ _).alloc (Nat.le_refl _) (Obj.cells #[.iface 23 (.pointer (some ⟨b, 0, none⟩))] 147))
  have HR := hide (read_any b i n g base cache.length cv m bytes cache _ h'.at_ (h.num.small (by omega)) hb hi h.fits h'.blk h.len h'.own (fun x hx => (h.ok x hx).2) rfl (by have := h.many; omega))
  have mR := m_read
  have H := hide h
  have H' := hide h'
  clear h h'
  unfold vol
  go_enter Tryz.func172, Tryz.ntmps172
  go_wp2_with (first
    | (go_at_call 239; refine HR.out.mono ?_; rintro e w1 ⟨g', rfl, hd, hg, hz, ho⟩)
    | (go_at_call 133; refine (check_nil _).mono ?_; rintro e w' ⟨rfl, rfl⟩))
  go_ret
  rw [World.size_alloc] at hz
  have hbl : ∀ {x : Nat}, x ≠ b → ¬ (fun x => x = b) x := fun h => h
  have hg' := Blk.only H'.out.blk ho (hbl (H'.out.at_.ne_ H'.out.blk (by decide)).symm)
  have ho' := ownN_only H'.out.own ho (disk_ne H'.out.at_ (by decide))
  exact ⟨g', rfl, ⟨hd, hg', H.out.len, ho', H.out.ok, H.out.many, H.out.num.tick, H.out.fits, Nat.le_trans H'.out.base_ ho.size⟩, hg, by omega, (((Only.refl _ _).alloc _).trans ho)⟩

set_option maxRecDepth 100000 in
set_option maxHeartbeats 1000000 in
theorem vwrite_any (K b g base n i k c : Nat) (A : Option Addr) (cv : Value) (m : Nums) (bytes data : List UInt8) (cache : List (Nat × List UInt8)) (w : World) (h : Dk w K b g base n cv m bytes cache) (hb : m.bad = false) (hi : i < n) (hK : K < edge)
    (hr : SlU w A k c data) (hk : k ≤ 128) (hm : cache.length < 90000) :
    Calls Tryz.prog 92 #[vol b, .int .i64 i, .slice A k c] w fun e w' => ∃ cv', e = .returned (.tuple #[]) ∧ Dk w' (K + 1) b g base n cv' m.wrote bytes (cache ++ [(i, pad 128 data)]) ∧
      Only (dfp b g cv) w w' ∧ ∀ x, dfp b g cv' x → dfp b g cv x ∨ w.heap.size ≤ x := by
  have hbel : Below w.heap.size w (w.alloc (Obj.cells #[.iface 23 (.pointer (some ⟨b, 0, none⟩))] 147)) := (Below.refl _ _).alloc (Nat.le_refl _) _
  have h' := h.below hbel
  have HR := hide (write_any b i n c k n base cache.length A (some ⟨g, 0, none⟩) cv m data cache _ h'.at_ (h.num.small (by omega)) hb hi h.fits h'.own (by omega) (hr.below hbel) hk h'.base_)
  have mR := m_write
  have H := hide h
  have H' := hide h'
  have HRL := hide hr.1
  clear h h' hr hbel
  unfold vol
  go_enter Tryz.func92, Tryz.ntmps92
  go_wp2_with (first
    | (go_at_call 240; refine HR.out.mono ?_; rintro e w1 ⟨cv', rfl, hd, hown, hat, ho⟩)
    | (go_at_call 133; refine (check_nil _).mono ?_; rintro e w' ⟨rfl, rfl⟩))
  go_end0
  have hgn : g ≠ b := (H'.out.at_.ne_ H'.out.blk (by decide)).symm
  have hgc : some g ≠ cv.ownBlock := fun e => own_blk_ne H'.out.own H'.out.blk (by decide) e.symm
  have hg' := Blk.only H'.out.blk ho (fun hx => hx.elim hgn hgc)
  refine ⟨cv', rfl, ⟨hd, hg', H.out.len, by rw [List.length_append]; exact hown, ?_, by rw [List.length_append]; simp only [List.length_cons, List.length_nil]; omega, H.out.num.wrote, H.out.fits, Nat.le_trans H'.out.base_ ho.size⟩, ?_, ?_⟩
  · intro x hx
    rcases List.mem_append.1 hx with hx | hx
    · exact H.out.ok x hx
    · rw [List.mem_singleton.1 hx]
      exact ⟨hi, pad_length _ _ (by rw [HRL.out]; exact hk)⟩
  · refine Only.trans ((Only.refl _ _).alloc _) (ho.mono fun x _ hx => hx.elim .inl fun h => .inr (.inr h))
  · intro x hx
    rcases hx with hx | hx | hx
    · exact .inl (.inl hx)
    · exact .inl (.inr (.inl hx))
    · rcases hat with e | ⟨g', e, hz⟩
      · exact .inl (.inr (.inr (by rw [← e]; exact hx)))
      · right
        rw [World.size_alloc] at hz
        rw [e] at hx
        injection hx with hx
        omega

set_option maxRecDepth 100000 in
set_option maxHeartbeats 1000000 in
theorem vflush_any (K b g base n : Nat) (cv : Value) (m : Nums) (bytes : List UInt8) (cache : List (Nat × List UInt8)) (w : World) (h : Dk w K b g base n cv m bytes cache) (hb : m.bad = false) (hK : K < edge) :
    Calls Tryz.prog 94 #[vol b] w fun e w' => e = .returned (.tuple #[]) ∧ Dk w' (K + 1) b g base n (.slice none 0 0) m.tick (dflush bytes cache) [] ∧ Only (fun x => x = b ∨ x = g) w w' := by
  have hbel : Below w.heap.size w (w.alloc (Obj.cells #[.iface 23 (.pointer (some ⟨b, 0, none⟩))] 147)) := (Below.refl _ _).alloc (Nat.le_refl _) _
  have h' := h.below hbel
  have HR := hide (flush_any b n g base cache.length cv m bytes cache _ h'.at_ (h.num.small (by omega)) hb h.fits h'.blk h.len h'.own h.ok rfl (by have := h.many; omega))
  have mR := m_flush
  have H := hide h
  have H' := hide h'
  clear h h' hbel
  unfold vol
  go_enter Tryz.func94, Tryz.ntmps94
  go_wp2_with (first
    | (go_at_call 238; refine HR.out.mono ?_; rintro e w1 ⟨rfl, hd, hg, ho⟩)
    | (go_at_call 133; refine (check_nil _).mono ?_; rintro e w' ⟨rfl, rfl⟩))
  go_end0
  exact ⟨rfl, ⟨hd, hg, dflush_length _ _ H.out.len H.out.ok, ⟨rfl, .inl ⟨rfl, rfl⟩⟩, (fun x hx => by cases hx), Nat.zero_le _, H.out.num.tick, H.out.fits, Nat.le_trans H'.out.base_ ho.size⟩, ((Only.refl _ _).alloc _).trans ho⟩
end Go.Proofs.YtemondlgcmpbbaaGreatDoor
