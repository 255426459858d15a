/- Walks: Disk.Read. -/
import Derived.Test.YtemondlgcmpbbaaGreatDoorDb
import Derived.Deep.DeepCutAuto
import Derived.Deep.LoopGhost
namespace Go.Proofs.YtemondlgcmpbbaaGreatDoor
open Go.RowKit

/-- A block as it was written last. -/
def dread (bytes : List UInt8) (cache : List (Nat × List UInt8)) (i : Nat) : List UInt8 :=
  cache.foldl (fun acc x => if x.1 = i then x.2 else acc) ((bytes.drop (i * 128)).take 128)

theorem make128 (w : World) : (Instr.makeSlice 77 (.int .i64 128) (.int .i64 128)).run Tryz.prog w = .ok (.slice (some ⟨w.heap.size, 0, none⟩) 128 128) (w.alloc (.cells (bc (List.replicate 128 0)).toArray 5)) := by kernel_rfl

theorem dread_snoc (bytes : List UInt8) (cache : List (Nat × List UInt8)) (i k : Nat) (h : k < cache.length) : dread bytes (cache.take (k + 1)) i = if cache[k].1 = i then cache[k].2 else dread bytes (cache.take k) i := by
  unfold dread
  rw [List.take_succ_eq_append_getElem h, List.foldl_append]
  rfl
theorem dread_length (bytes : List UInt8) : ∀ (cache : List (Nat × List UInt8)) (i n : Nat), i < n → bytes.length = n * 128 → (∀ x ∈ cache, x.2.length = 128) → (dread bytes cache i).length = 128 := by
  intro cache i n hi hl hc
  unfold dread
  have h0 : ((bytes.drop (i * 128)).take 128).length = 128 := by rw [List.length_take, List.length_drop]; omega
  generalize (bytes.drop (i * 128)).take 128 = acc at h0
  induction cache generalizing acc with
  | nil => exact h0
  | cons x l ih =>
    rw [List.foldl_cons]
    refine ih (fun y hy => hc y (by simp [hy])) _ ?_
    split
    · exact hc x (by simp)
    · exact h0

set_option maxRecDepth 100000 in
set_option maxHeartbeats 1000000 in
theorem read_any (b i n g base q : Nat) (cv : Value) (m : Nums) (bytes : List UInt8) (cache : List (Nat × List UInt8)) (w : World) (h : DkAt w b (.slice (some ⟨g, 0, none⟩) n n) cv m) (hs : m.small) (hb : m.bad = false) (hi : i < n) (hn : n ≤ 1000)
    (hg : Blk w g 111 (bc bytes).toArray) (hlen : bytes.length = n * 128) (hcv : w.ownsRow base 113 129 cv q (ccells cache)) (hc : ∀ x ∈ cache, x.2.length = 128) (hq : cache.length = q) (hq2 : q ≤ 100000) :
    Calls Tryz.prog 239 #[.pointer (some ⟨b, 0, none⟩), .int .i64 i] w fun e w' => ∃ g', e = .returned (.tuple #[.slice (some ⟨g', 0, none⟩) 128 128, .nilIface]) ∧ DkAt w' b (.slice (some ⟨g, 0, none⟩) n n) cv m.tick ∧
      Blk w' g' 5 (bc (dread bytes cache i)).toArray ∧ w.heap.size ≤ g' ∧ Only (fun x => x = b) w w' := by
  obtain ⟨Ac, cc, rfl, hqc, hcc, hown, hno⟩ := ownN_form hcv
  have HOWN := hide hown
  have HNO := hide hno
  have HF := hide (fails_any b (.slice (some ⟨g, 0, none⟩) n n) _ m w h hs)
  rw [hb] at HF
  have HM := hide hs
  have HB := hide hb
  have HNE := hide (disk_ne h (T := 111) (by decide))
  have HNE2 := hide (disk_ne h (T := 113) (by decide))
  have HD := hide h
  have HCV := hide hcv
  have HG := hide hg
  have HL := hide hlen
  have HC := hide hc
  have HQ := hide hq
  clear hown hno hs hb h hcv hg hlen hc hq
  have hmk := make128
  have hblen : (bc ((bytes.drop (i * 128)).take 128)).length = 128 := by rw [bc_length, List.length_take, List.length_drop, HL.out]; omega
  have HBL := hide hblen
  have HRG : Hid (((bc bytes).drop (i * 128)).take (bc ((bytes.drop (i * 128)).take 128)).length = bc ((bytes.drop (i * 128)).take 128)) := by rw [hblen, bc_take, bc_drop]; exact rfl
  have HN1 : Hid ((bc ((bytes.drop (i * 128)).take 128)).length = Nat.min 128 128 * 1) := hblen
  have HN2 : Hid (0 + (bc ((bytes.drop (i * 128)).take 128)).length ≤ (bc (List.replicate 128 0)).length) := by rw [hblen, bc_length]; simp only [List.length_replicate]; exact Nat.le_refl _
  have HSP : Hid (spl (bc (List.replicate 128 0)) 0 (bc ((bytes.drop (i * 128)).take 128)) = bc ((bytes.drop (i * 128)).take 128)) := spl_all (by rw [hblen, bc_length, List.length_replicate])
  clear hblen
  have q1 : (0 : Int) ≤ (i : Int) := by omega
  have q2 : (i : Int) < (n : Int) := by omega
  go_enter Tryz.func239, Tryz.ntmps239
  go_wp2_with (first
    | (go_at_call 241; refine HF.out.mono ?_; rintro e w1 ⟨rfl, hd1, ho1⟩; have HD1 := hide hd1; have c01 : w1.cell? ⟨b, 0, none⟩ = some (.slice (some ⟨g, 0, none⟩) n n) := cellOf hd1 0 rfl; have c02 := fun o1 => cellA o1 c01; have HSRC : Hid (∀ (o : Obj) (j : Nat) (v : Value), (bc ((bytes.drop (i * 128)).take 128))[j]? = some v → (w1.alloc o).cell? ((⟨g, i * 128, none⟩ : Addr).add j) = some v) := (fun o j v hv => by rw [Addr.add_lit]; exact Blk.range (cur := bc bytes) (o := i * 128) (((ho1.blk HG.out (HNE.out _ _ HG.out))).alloc o) HRG.out j v hv); have HZ1 := hide ho1.size; clear hd1)
    | (go_at_call 242; refine (none_no b i n n _ _ m.tick _ HD1.out hi hn).mono ?_; rintro e w' ⟨rfl, rfl⟩)
    | (refine wpList_copy_sz _ rfl (.tmp 18) (.tmp 25) 77 77 rfl 5 1 Tryz.underlying77 size_u8 w1.heap.size 0 128 128 ⟨g, i * 128, none⟩ 128 128 rfl rfl (bc (List.replicate 128 0)) 5 (Blk.new w1 _ _) (bc ((bytes.drop (i * 128)).take 128)) HN1.out (HSRC.out _) HN2.out (bc_one _) ?_
       intro w2 hb2 hg2 hs2
       have HB2 := hide hb2
       rw [HSP.out] at HB2
       have hd2 : DkAt w2 b (.slice (some ⟨g, 0, none⟩) n n) (.slice Ac q cc) m.tick := (HD1.out.alloc _).grown hg2 (fun e => by injection e with e; have := HD1.out.lt; omega)
       have c21 : w2.cell? ⟨b, 1, none⟩ = some (.slice Ac q cc) := cellOf hd2 1 rfl
       have HD2 := hide hd2
       have HG2 := hide hg2
       have HS2 : Hid (w2.heap.size = w1.heap.size + 1) := by rw [hs2]; exact World.size_alloc _ _
       clear hb2 hg2 hd2 hs2))
  have hb2b : Blk w2 w1.heap.size 5 (bc (dread bytes [] i)).toArray := HB2.out
  have HB2b := hide hb2b
  clear hb2b
  go_loopw [32] (fun v wr => ∃ k : Nat, k ≤ q ∧ v = .int .i64 k ∧ Blk wr w1.heap.size 5 (bc (dread bytes (cache.take k) i)).toArray ∧ Only (fun x => x = w1.heap.size) w2 wr) (fun v _ => q - (intOf v).toNat)
  case atStart => exact ⟨0, Nat.zero_le _, rfl, by rw [List.take_zero]; exact HB2b.out, Only.refl _ _⟩
  case round =>
    obtain ⟨k, hk, rfl, hbk, hok⟩ := hrel
    have HBK := hide hbk
    have HOK := hide hok
    clear hbk hok
    by_cases hlt : k < q
    · have hkl : k < cache.length := by rw [HQ.out]; exact hlt
      obtain ⟨gc, cur, rfl, hgc, htk⟩ : ∃ gc cur, Ac = some ⟨gc, 0, none⟩ ∧ Blk w gc 113 cur ∧ cur.toList.take (q * 129) = ccells cache := by
        cases Ac with
        | none => have := (HNO.out rfl).1; omega
        | some a =>
          obtain ⟨_, _, e, cur, hb, _, ht⟩ := HOWN.out a.block rfl
          exact ⟨a.block, cur, e, hb, ht⟩
      have hgl := hgc.lt
      have hz : w.heap.size ≤ w1.heap.size := HZ1.out
      have hwr : Blk wr gc 113 cur.toList.toArray := HOK.out.blk ((((ho1.blk hgc (HNE2.out _ _ hgc)).alloc _)).grown HG2.out (fun e => by injection e with e; omega)) (fun e => by omega)
      obtain ⟨x, hx⟩ : ∃ x, x = cache[k] := ⟨_, rfl⟩
      have hxl : x.2.length = 128 := by rw [hx]; exact HC.out _ (List.getElem_mem hkl)
      have hwl : (wcells x).length = 129 := by rw [wcells_length, hxl]
      have hrg : wr.rangeAt gc (k * 129) (wcells x) := hwr.range (by
        rw [hwl, hx, ← ccells_at cache k hkl HC.out, ← htk, take_drop_take _ _ _ _ (by omega)])
      have cw0 : (wr.alloc (.cells (wcells x).toArray 113)).cell? ⟨wr.heap.size, 0, none⟩ = some (.int .i64 x.1) := cellOf (Blk.new wr _ _) 0 rfl
      have hsz : (Tryz.prog.info? 113).map (·.size) = some (wcells x).length := by rw [size_write, hwl]
      have hdl : (dread bytes (cache.take k) i).length = 128 := dread_length bytes _ i n hi HL.out fun y hy => HC.out y (List.mem_of_mem_take hy)
      have HX := hide hx
      have HXL := hide hxl
      have HRGW := hide hrg
      have HSZ := hide hsz
      have HWL := hide hwl
      have HM1 : Hid ((bc x.2).length = Nat.min 128 128 * 1) := by rw [bc_length, hxl]; exact rfl
      have HM2 : Hid (0 + (bc x.2).length ≤ (bc (dread bytes (cache.take k) i)).length) := by rw [bc_length, bc_length, hxl, hdl]; exact Nat.le_refl _
      have HSPL : Hid (spl (bc (dread bytes (cache.take k) i)) 0 (bc x.2) = bc x.2) := spl_all (by rw [bc_length, bc_length, hxl, hdl])
      have HSR : Hid (∀ j v, (bc x.2)[j]? = some v → (wr.alloc (.cells (wcells x).toArray 113)).cell? ((⟨wr.heap.size, 1, none⟩ : Addr).add j) = some v) := fun j v hv => by
        rw [Addr.add_lit]
        exact (Blk.new wr 113 (wcells x).toArray).range (o := 1) (cs := bc x.2) (by show ((bc x.2).drop 0).take (bc x.2).length = bc x.2; rw [List.drop_zero, List.take_length]) j v hv
      have HDL := hide hdl
      have k1 : (0 : Int) ≤ (k : Int) := by omega
      have k2 : (k : Int) < (q : Int) := by omega
      have k3 : (q : Int) ≤ 100000 := by omega
      clear hx hxl hrg hsz hwl hwr htk hdl
      by_cases hat : x.1 = i
      · have e1 : ((x.1 : Int) == (i : Int)) = true := by rw [hat]; exact beq_self_eq_true _
        have HAT := hide hat
        clear hat
        go_wp2_with (first
          | (refine wpList_load_mid rfl 113 (.tmp 34) rfl gc (k * 129) rfl (wcells x) _ HRGW.out Tryz.underlying113 rfl HSZ.out ?_)
          | (refine wpList_store_new rfl 113 (.tmp 8) (.tmp 35) rfl wr _ _ (wcells x) rfl rfl (by rw [HWL.out, zc_write]; simp [bc]) HSZ.out (wcells_one _) ?_)
          | (refine wpList_copy_sz _ rfl (.tmp 40) (.tmp 42) 77 77 rfl 5 1 Tryz.underlying77 size_u8 w1.heap.size 0 128 128 ⟨wr.heap.size, 1, none⟩ 128 128 rfl rfl (bc (dread bytes (cache.take k) i)) 5 (HBK.out.alloc _) (bc x.2) HM1.out HSR.out HM2.out (bc_one _) ?_
             intro w3 hb3 hg3 hs3
             have HB3 := hide hb3
             rw [HSPL.out] at HB3
             have HG3 := hide hg3
             clear hb3 hg3 hs3))
        go_roundw
        case rel =>
          refine ⟨k + 1, by omega, by go_num, ?_, HOK.out.alloc _ |>.grown HG3.out fun g hg => .inl (by injection hg with hg; exact hg.symm)⟩
          rw [dread_snoc bytes cache i k hkl, ← HX.out, if_pos HAT.out]
          exact HB3.out
        case measure => simp [intOf]; omega
      · have e1 : ((x.1 : Int) == (i : Int)) = false := by rw [beq_eq_false_iff_ne]; omega
        have HAT := hide hat
        clear hat
        go_wp2_with (first
          | (refine wpList_load_mid rfl 113 (.tmp 34) rfl gc (k * 129) rfl (wcells x) _ HRGW.out Tryz.underlying113 rfl HSZ.out ?_)
          | (refine wpList_store_new rfl 113 (.tmp 8) (.tmp 35) rfl wr _ _ (wcells x) rfl rfl (by rw [HWL.out, zc_write]; simp [bc]) HSZ.out (wcells_one _) ?_))
        go_roundw
        case rel =>
          refine ⟨k + 1, by omega, by go_num, ?_, HOK.out.alloc _⟩
          rw [dread_snoc bytes cache i k hkl, ← HX.out, if_neg HAT.out]
          exact HBK.out.alloc _
        case measure => simp [intOf]; omega
    · have hnl : ¬ ((k : Int) < (q : Int)) := by omega
      go_wp2
      go_ret2
      have hkq : k = q := by omega
      have hz : w.heap.size ≤ w1.heap.size := HZ1.out
      refine ⟨w1.heap.size, rfl, HD2.out.only HOK.out (fun e => by have := HD1.out.lt; omega), ?_, hz, ?_⟩
      · have := HBK.out
        rw [hkq, ← HQ.out, List.take_length] at this
        exact this
      · exact Only.trans' ((ho1.alloc _).grown HG2.out fun g hg => .inr (by injection hg with hg; omega)) HOK.out fun x hx e => by omega

end Go.Proofs.YtemondlgcmpbbaaGreatDoor
