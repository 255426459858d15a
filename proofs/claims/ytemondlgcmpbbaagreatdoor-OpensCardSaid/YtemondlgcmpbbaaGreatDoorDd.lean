/- Walks: Disk.Flush. -/
import Derived.Test.YtemondlgcmpbbaaGreatDoorDb
import Derived.Deep.DeepCutAuto
import Derived.Deep.LoopGhost
import Derived.Deep.RegionHeld3
namespace Go.Proofs.YtemondlgcmpbbaaGreatDoor
open Go.RowKit

/-- What is sure behind a flush. -/
def dset (bytes : List UInt8) (x : Nat × List UInt8) : List UInt8 := bytes.take (x.1 * 128) ++ x.2 ++ bytes.drop (x.1 * 128 + 128)
def dflush (bytes : List UInt8) (cache : List (Nat × List UInt8)) : List UInt8 := cache.foldl dset bytes
theorem dset_length {bytes : List UInt8} {n : Nat} {x : Nat × List UInt8} (h : bytes.length = n * 128) (h1 : x.1 < n) (h2 : x.2.length = 128) : (dset bytes x).length = n * 128 := by
  unfold dset
  simp only [List.length_append, List.length_take, List.length_drop]
  omega
theorem dflush_length {n : Nat} : ∀ (cache : List (Nat × List UInt8)) (bytes : List UInt8), bytes.length = n * 128 → (∀ x ∈ cache, x.1 < n ∧ x.2.length = 128) → (dflush bytes cache).length = n * 128
  | [], _, h, _ => h
  | x :: l, bytes, h, hc => dflush_length l (dset bytes x) (dset_length h (hc x (by simp)).1 (hc x (by simp)).2) fun y hy => hc y (by simp [hy])
theorem dflush_snoc (bytes : List UInt8) (cache : List (Nat × List UInt8)) (k : Nat) (h : k < cache.length) : dflush bytes (cache.take (k + 1)) = dset (dflush bytes (cache.take k)) cache[k] := by
  unfold dflush
  rw [List.take_succ_eq_append_getElem h, List.foldl_append]
  rfl
theorem bc_dset {bytes : List UInt8} {_n : Nat} {x : Nat × List UInt8} (h2 : x.2.length = 128) : spl (bc bytes) (x.1 * 128) (bc x.2) = bc (dset bytes x) := by
  unfold spl dset
  rw [bc_app, bc_app, bc_take, bc_drop, bc_length, h2]

set_option maxRecDepth 100000 in
set_option maxHeartbeats 1000000 in
theorem flush_any (b n g base q : Nat) (cv : Value) (m : Nums) (bytes : List UInt8) (cache : List (Nat × List UInt8)) (w : World) (h : DkAt w b (.slice (some ⟨g, 0, none⟩) n n) cv m) (hs : m.small) (hb : m.bad = false) (_hn : n ≤ 1000)
    (hg : Blk w g 111 (bc bytes).toArray) (hlen : bytes.length = n * 128) (hcv : w.ownsRow base 113 129 cv q (ccells cache)) (hc : ∀ x ∈ cache, x.1 < n ∧ x.2.length = 128) (hq : cache.length = q) (hq2 : q ≤ 100000) :
    Calls Tryz.prog 238 #[.pointer (some ⟨b, 0, none⟩)] w fun e w' => e = .returned .nilIface ∧ DkAt w' b (.slice (some ⟨g, 0, none⟩) n n) (.slice none 0 0) m.tick ∧
      Blk w' g 111 (bc (dflush bytes cache)).toArray ∧ Only (fun x => x = b ∨ x = g) w w' := by
  obtain ⟨Ac, cc, rfl, hqc, hcc, hown, hno⟩ := ownN_form hcv
  have HOWN := hide hown
  have HNO := hide hno
  have HF := hide (fails_any b (.slice (some ⟨g, 0, none⟩) n n) _ m w h hs)
  rw [hb] at HF
  have HM := hide hs
  have HB := hide hb
  have HNE := hide (disk_ne h (T := 111) (by decide))
  have HNE2 := hide (disk_ne h (T := 113) (by decide))
  have HD := hide h
  have HCV := hide hcv
  have HG := hide hg
  have HL := hide hlen
  have HC := hide hc
  have HQ := hide hq
  clear hown hno hs hb h hcv hg hlen hc hq
  go_enter Tryz.func238, Tryz.ntmps238
  go_wp2_with (first
    | (go_at_call 241; refine HF.out.mono ?_; rintro e w1 ⟨rfl, hd1, ho1⟩; have HD1 := hide hd1; have c01 : w1.cell? ⟨b, 0, none⟩ = some (.slice (some ⟨g, 0, none⟩) n n) := cellOf hd1 0 rfl; have c02 : w1.cell? ⟨b, 1, none⟩ = some (.slice Ac q cc) := cellOf hd1 1 rfl; have HG1 := hide (ho1.blk HG.out (HNE.out _ _ HG.out)); clear hd1))
  have hbg : b ≠ g := HD1.out.ne_ HG1.out (by decide)
  have hbl : b < w1.heap.size := HD1.out.lt
  have hgl : g < w1.heap.size := HG1.out.lt
  go_loopw [13] (fun v wr => ∃ k : Nat, k ≤ q ∧ v = .int .i64 k ∧ Blk wr g 111 (bc (dflush bytes (cache.take k))).toArray ∧ Only (fun x => x = g) w1 wr) (fun v _ => q - (intOf v).toNat)
  case atStart => exact ⟨0, Nat.zero_le _, rfl, by rw [List.take_zero]; exact HG1.out, Only.refl _ _⟩
  case round =>
    obtain ⟨k, hk, rfl, hbk, hok⟩ := hrel
    have hdr : DkAt wr b (.slice (some ⟨g, 0, none⟩) n n) (.slice Ac q cc) m.tick := HD1.out.only hok hbg
    have r0 : wr.cell? ⟨b, 0, none⟩ = some (.slice (some ⟨g, 0, none⟩) n n) := cellOf hdr 0 rfl
    have HDR := hide hdr
    have HBK := hide hbk
    have HOK := hide hok
    clear hbk hok hdr c01 c02
    by_cases hlt : k < q
    · have hkl : k < cache.length := by rw [HQ.out]; exact hlt
      obtain ⟨gc, cur, rfl, hgc, htk⟩ : ∃ gc cur, Ac = some ⟨gc, 0, none⟩ ∧ Blk w gc 113 cur ∧ cur.toList.take (q * 129) = ccells cache := by
        cases Ac with
        | none => have := (HNO.out rfl).1; omega
        | some a =>
          obtain ⟨_, _, e, cur, hb, _, ht⟩ := HOWN.out a.block rfl
          exact ⟨a.block, cur, e, hb, ht⟩
      have hwr : Blk wr gc 113 cur.toList.toArray := HOK.out.blk (ho1.blk hgc (HNE2.out _ _ hgc)) (fun e => by subst e; exact Blk.ne_ hgc HG.out (by decide) rfl)
      obtain ⟨x, hx⟩ : ∃ x, x = cache[k] := ⟨_, rfl⟩
      have hxl : x.1 < n ∧ x.2.length = 128 := by rw [hx]; exact HC.out _ (List.getElem_mem hkl)
      have hwl : (wcells x).length = 129 := by rw [wcells_length, hxl.2]
      have hrg : wr.rangeAt gc (k * 129) (wcells x) := hwr.range (by
        rw [hwl, hx, ← ccells_at cache k hkl (fun y hy => (HC.out y hy).2), ← htk, take_drop_take _ _ _ _ (by omega)])
      have cw0 : (wr.alloc (.cells (wcells x).toArray 113)).cell? ⟨wr.heap.size, 0, none⟩ = some (.int .i64 x.1) := cellOf (Blk.new wr _ _) 0 rfl
      have r01 := fun o1 => cellA o1 r0
      have hsz : (Tryz.prog.info? 113).map (·.size) = some (wcells x).length := by rw [size_write, hwl]
      have hdl : (dflush bytes (cache.take k)).length = n * 128 := dflush_length _ _ HL.out fun y hy => HC.out y (List.mem_of_mem_take hy)
      have HX := hide hx
      have HXL := hide hxl
      have HRGW := hide hrg
      have HSZ := hide hsz
      have HWL := hide hwl
      have HDL := hide hdl
      have k1 : (0 : Int) ≤ (k : Int) := by omega
      have k2 : (k : Int) < (q : Int) := by omega
      have k3 : (q : Int) ≤ 100000 := by omega
      have x1 : (0 : Int) ≤ (x.1 : Int) := by omega
      have x2 : (x.1 : Int) < (n : Int) := by have := hxl.1; omega
      have ua := Tryz.underlying111
      have hr24 : (wr.alloc (.cells (wcells x).toArray 113)).drew.rangeAt wr.heap.size 1 (bc x.2) := (Blk.new wr 113 (wcells x).toArray).drew.range (o := 1) (cs := bc x.2) (by show ((bc x.2).drop 0).take (bc x.2).length = bc x.2; rw [List.drop_zero, List.take_length])
      have hsa : (Tryz.prog.info? 111).map (·.size) = some (bc x.2).length := by rw [size_arr, bc_length, hxl.2]
      have HR24 := hide hr24
      have HSA := hide hsa
      clear hx hxl hrg hsz hwl hwr htk hdl hr24 hsa
      go_wp2_with (first
          | (refine wpList_load_mid rfl 113 (.tmp 15) rfl gc (k * 129) rfl (wcells x) _ HRGW.out Tryz.underlying113 rfl HSZ.out ?_)
          | (refine wpList_store_new rfl 113 (.tmp 4) (.tmp 16) rfl wr _ _ (wcells x) rfl rfl (by rw [HWL.out, zc_write]; simp [bc]) HSZ.out (wcells_one _) ?_))
      have hw0 : (wr.alloc (.cells (wcells x).toArray 113)).drew.cell? ⟨b, 0, none⟩ = some (.slice (some ⟨g, 0, none⟩) n n) := cellA _ r0
      refine wp_region_held_drew (S := fun w' => w'.cell? ⟨b, 0, none⟩ = some (.slice (some ⟨g, 0, none⟩) n n) ∧ w'.cell? ⟨wr.heap.size, 0, none⟩ = some (.int .i64 x.1) ∧ w'.rangeAt wr.heap.size 1 (bc x.2)) (by kernel_rfl) ⟨hw0, cw0, HR24.out⟩ ?_
      intro hS0
      refine wpAnyH_takeD (i := 0) (v := (.pointer (some ⟨b, 0, none⟩))) (some 17) rfl rfl (by kernel_rfl) (by kernel_rfl) (by kernel_rfl) (fun _ _ _ h => h) (Or.inl ⟨rfl, fun w' hSw => by go_simp⟩) hS0 ?_
      simp only [Act.put, List.setIfInBounds_toArray, List.set_cons_zero, List.set_cons_succ]
      refine wpAnyH_takeD (i := 1) (v := (.pointer (some ⟨b, 0, none⟩))) (some 18) rfl rfl (by kernel_rfl) (by kernel_rfl) (by kernel_rfl) (fun _ _ _ h => h) (Or.inl ⟨rfl, fun w' hSw => by go_simp⟩) hS0 ?_
      simp only [Act.put, List.setIfInBounds_toArray, List.set_cons_zero, List.set_cons_succ]
      refine wpAnyH_takeD (i := 2) (v := (.pointer (some ⟨b, 0, none⟩))) (some 19) rfl rfl (by kernel_rfl) (by kernel_rfl) (by kernel_rfl) (fun _ _ _ h => h) (Or.inl ⟨rfl, fun w' hSw => by go_simp⟩) hS0 ?_
      simp only [Act.put, List.setIfInBounds_toArray, List.set_cons_zero, List.set_cons_succ]
      refine wpAnyH_takeD (i := 3) (v := (.slice (some ⟨g, 0, none⟩) n n)) (some 20) rfl rfl (by kernel_rfl) (by kernel_rfl) (by kernel_rfl) (fun _ _ _ h => h) (Or.inl ⟨rfl, fun w' hSw => by have h1 := hSw.1; clear hSw; go_simp⟩) hS0 ?_
      simp only [Act.put, List.setIfInBounds_toArray, List.set_cons_zero, List.set_cons_succ]
      refine wpAnyH_takeD (i := 4) (v := (.pointer (some ⟨wr.heap.size, 0, none⟩))) (some 21) rfl rfl (by kernel_rfl) (by kernel_rfl) (by kernel_rfl) (fun _ _ _ h => h) (Or.inl ⟨rfl, fun w' hSw => by go_simp⟩) hS0 ?_
      simp only [Act.put, List.setIfInBounds_toArray, List.set_cons_zero, List.set_cons_succ]
      refine wpAnyH_takeD (i := 5) (v := (.int .i64 x.1)) (some 22) rfl rfl (by kernel_rfl) (by kernel_rfl) (by kernel_rfl) (fun _ _ _ h => h) (Or.inl ⟨rfl, fun w' hSw => by have h1 := hSw.2.1; clear hSw; go_simp⟩) hS0 ?_
      simp only [Act.put, List.setIfInBounds_toArray, List.set_cons_zero, List.set_cons_succ]
      refine wpAnyH_takeD (i := 6) (v := (.pointer (some ⟨wr.heap.size, 1, none⟩))) (some 23) rfl rfl (by kernel_rfl) (by kernel_rfl) (by kernel_rfl) (fun _ _ _ h => h) (Or.inl ⟨rfl, fun w' hSw => by go_simp⟩) hS0 ?_
      simp only [Act.put, List.setIfInBounds_toArray, List.set_cons_zero, List.set_cons_succ]
      refine wpAnyH_takeD (i := 7) (v := .agg (bc x.2).toArray) (some 24) rfl rfl (by kernel_rfl) (by kernel_rfl) (by kernel_rfl) (fun _ _ _ h => h) (yieldsIf_load_mid rfl _ _ rfl wr.heap.size 1 rfl _ _ (fun _ h => h.2.2) Tryz.underlying111 rfl HSA.out) hS0 ?_
      simp only [Act.put, List.setIfInBounds_toArray, List.set_cons_zero, List.set_cons_succ]
      refine wpAnyH_takeD (i := 8) (v := (.pointer (some ⟨g, x.1 * 128, none⟩))) (some 25) rfl rfl (by kernel_rfl) (by kernel_rfl) (by kernel_rfl) (fun _ _ _ h => h) (Or.inl ⟨rfl, fun w' hSw => by clear hSw; go_simp⟩) hS0 ?_
      simp only [Act.put, List.setIfInBounds_toArray, List.set_cons_zero, List.set_cons_succ]
      refine wpAnyH_one (i := 9) (by kernel_rfl) rfl rfl ?_
      refine wp_store_sz 111 (.tmp 25) (.tmp 24) rfl g (x.1 * 128) (bc x.2) rfl rfl 111 (bc (dflush bytes (cache.take k))) ((HBK.out.alloc _).drew) (by rw [bc_length, bc_length, HXL.out.2, HDL.out]; have := HXL.out.1; omega) HSA.out (bc_one _) ?_
      intro w3 hb3 hg3 hs3
      have hg3' : ∀ {y : Nat}, y ≠ g → some y ≠ some g := fun h e => h (by injection e)
      have hgr : g < wr.heap.size := HBK.out.lt
      have hSl : w3.cell? ⟨b, 0, none⟩ = some (.slice (some ⟨g, 0, none⟩) n n) ∧ w3.cell? ⟨wr.heap.size, 0, none⟩ = some (.int .i64 x.1) ∧ w3.rangeAt wr.heap.size 1 (bc x.2) := by
        have hzz : (wr.alloc (.cells (wcells x).toArray 113)).drew.heap.size = wr.heap.size + 1 := World.size_alloc _ _
        refine ⟨?_, ?_, fun j v hv => ?_⟩
        · rw [World.cell?_of_block (hg3.block b (by rw [hzz]; have := HDR.out.lt; omega) (hg3' hbg))]; exact hw0
        · rw [World.cell?_of_block (hg3.block wr.heap.size (by rw [hzz]; omega) (hg3' (by omega)))]; exact cw0
        · rw [World.cell?_of_block (hg3.block wr.heap.size (by rw [hzz]; omega) (hg3' (by omega)))]; exact HR24.out j v hv
      refine ⟨hSl, ?_⟩
      refine wpAnyH_done (by kernel_rfl) ?_ _
      have HB3 := hide hb3
      have HG3 := hide hg3
      clear hb3 hg3 hs3 hg3' hSl hS0 hw0
      change Exit.inBlock _ _ _ (Act.put _ none undef) _
      simp only [Act.put]
      go_wp2
      go_roundw
      case rel =>
        refine ⟨k + 1, by omega, by go_num, ?_, Only.grown ((HOK.out.alloc _).drew) HG3.out fun g' hg' => .inl (by injection hg' with hg'; exact hg'.symm)⟩
        rw [dflush_snoc bytes cache k hkl, ← HX.out, ← bc_dset (_n := n) HXL.out.2]
        exact HB3.out
      case measure => simp [intOf]; omega
    · have hnl : ¬ ((k : Int) < (q : Int)) := by omega
      have r1 : wr.cell? ⟨b, 1, none⟩ = some (.slice Ac q cc) := cellOf HDR.out 1 rfl
      have f1 : wr.frozen? ⟨b, 1, none⟩ = false := HDR.out.frozen 1
      go_wp2
      go_ret
      have hkq : k = q := by omega
      refine ⟨rfl, HDR.out.set_ 1 _, ?_, ?_⟩
      · have := HBK.out
        rw [hkq, ← HQ.out, List.take_length] at this
        exact this.far (by exact hbg.symm) _
      · exact (Only.trans' (ho1.mono fun _ _ h => Or.inl h) HOK.out fun _ _ h => Or.inr h).setCell (.inl (.inl rfl)) _
end Go.Proofs.YtemondlgcmpbbaaGreatDoor
