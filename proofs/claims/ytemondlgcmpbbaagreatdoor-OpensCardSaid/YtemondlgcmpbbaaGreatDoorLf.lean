/- Walks: Disk.Bytes, api.Laid (of the bytes of a whole disk). -/
import Derived.Test.YtemondlgcmpbbaaGreatDoorAp
import Derived.Deep.LoopGhost
import Derived.Laws.IdiomStrings
import Derived.Laws.BytesArg
namespace Go.Proofs.YtemondlgcmpbbaaGreatDoor
open Go.RowKit

theorem info_u8 : (Tryz.prog.info? 5).map (fun i => (i.zero, i.size, i.bytes)) = some (some (.int .u8 0), 1, 1) := by kernel_rfl

set_option maxRecDepth 100000 in
set_option maxHeartbeats 1000000 in
theorem dbytes_any (K b g base n : Nat) (cv : Value) (m : Nums) (bytes : List UInt8) (cache : List (Nat × List UInt8)) (w : World) (h : Dk w K b g base n cv m bytes cache) :
    Calls Tryz.prog 198 #[.pointer (some ⟨b, 0, none⟩)] w fun e w' => e = .returned (.string ⟨bytes.toArray⟩) ∧ Below w.heap.size w w' := by
  obtain ⟨i0, hi0, hz0, hz1, hz2⟩ := info_parts info_u8
  have hfit := h.fits
  have hL := h.len
  have c0 : w.cell? ⟨b, 0, none⟩ = some (.slice (some ⟨g, 0, none⟩) n n) := cellOf h.at_ 0 rfl
  obtain ⟨w1, hmk, hown1, hgr1⟩ := run_make_own (P := Tryz.prog) w w.heap.size 77 5 i0 _ 1 Tryz.underlying77 hi0 hz0 hz1 .i64 .i64 (n * 128) (by rw [hz2]; omega) (by unfold maxLen; omega) (Nat.le_refl _)
  have hcast : ((n * 128 : Nat) : Int) = (n : Int) * 128 := by omega
  rw [hcast] at hmk
  have hwr : IntKind.i64.wrap ((n : Int) * 128) = (n : Int) * 128 := by rw [IntKind.wrap_i64]; omega
  have hb1 : Below w.heap.size w w1 := ⟨hgr1.os, hgr1.tape, hgr1.output, hgr1.size, fun x hx => hgr1.block x hx (fun e => by cases e)⟩
  have hd1 := h.below hb1
  have c1 : w1.cell? ⟨b, 0, none⟩ = some (.slice (some ⟨g, 0, none⟩) n n) := cellOf hd1.at_ 0 rfl
  have HI0 := hide hi0
  have HZ0 := hide hz0
  have HZ1 := hide hz1
  have HZ2 := hide hz2
  have HL := hide hL
  have HD1 := hide hd1
  have HB1 := hide hb1
  have HOWN1 := hide hown1
  have hbl : b < w.heap.size := h.at_.lt
  have hgl : g < w.heap.size := h.blk.lt
  have HH := hide h
  clear h hi0 hz0 hz1 hz2 hL hd1 hb1 hown1 hgr1 hcast
  go_enter Tryz.func198, Tryz.ntmps198
  go_wp2
  go_loopw [3, 17] (fun v i wr => ∃ k : Nat, k ≤ n ∧ i = .int .i64 k ∧ wr.ownsRow w.heap.size 5 1 v (k * 128) (bc (bytes.take (k * 128))) ∧ Below w.heap.size w wr) (fun _ i _ => n - (intOf i).toNat)
  case atStart => exact ⟨0, Nat.zero_le _, rfl, by rw [Nat.zero_mul, List.take_zero]; exact HOWN1.out, HB1.out⟩
  case round =>
    obtain ⟨k, hk, rfl, hown, hbr⟩ := hrel
    obtain ⟨A, c, rfl, _⟩ := ownN_form hown
    have hdr := HH.out.below hbr
    have r0 : wr.cell? ⟨b, 0, none⟩ = some (.slice (some ⟨g, 0, none⟩) n n) := cellOf hdr.at_ 0 rfl
    have hzr := hbr.size
    by_cases hlt : k < n
    · have k1 : (0 : Int) ≤ (k : Int) := by omega
      have k2 : (k : Int) < (n : Int) := by omega
      have hrd : Reads wr wr.heap.size 1 (some ⟨g, k * 128, none⟩) 128 (bc ((bytes.drop (k * 128)).take 128)) := by
        refine ⟨by rw [bc_length, List.length_take, List.length_drop, HL.out]; omega, fun _ => ⟨_, rfl, by show g < wr.heap.size; omega, fun j u hu => ?_⟩⟩
        rw [Addr.add_lit]
        refine hdr.blk.range (cur := bc bytes) (o := k * 128) ?_ j u hu
        rw [bc_length, List.length_take, List.length_drop, HL.out, bc_take, bc_drop, Nat.min_eq_left (by omega)]
      have hnext : bytes.take ((k + 1) * 128) = bytes.take (k * 128) ++ (bytes.drop (k * 128)).take 128 := by
        rw [show (k + 1) * 128 = k * 128 + 128 by omega, List.take_add]
      have HN := hide hnext
      have HOWN := hide hown
      have HRD := hide hrd
      have HBR := hide hbr
      clear hown hrd hbr hdr hnext c0 c1 hmk
      go_wp2_with (first
        | (at_builtin
           refine wpList_append_any _ rfl (.tmp 20) (.tmp 27) 77 rfl w.heap.size 5 i0 _ 1 1 Tryz.underlying77 HI0.out HZ0.out HZ1.out HZ2.out rfl (by decide) (.slice A (k * 128) c) (k * 128) _ rfl HOWN.out wr.heap.size (some ⟨g, k * 128, none⟩) 128 128 _ rfl HRD.out (bc_one _) (by unfold maxLen; omega) (by omega) hzr ?_
           intro v2 w2 hown2 hgr2 hat2
           have hb2 : Below w.heap.size w w2 := HBR.out.grown hgr2 hzr (fun g' e => (ownN_lt HOWN.out e).1)
           have HOWN2 := hide hown2
           have HB2 := hide hb2
           clear hown2 hgr2 hat2 hb2))
      go_roundw
      case rel =>
        refine ⟨k + 1, by omega, by go_num, ?_, HB2.out⟩
        rw [HN.out, bc_app, show (k + 1) * 128 = k * 128 + 128 by omega]
        exact HOWN2.out
      case measure => simp [intOf]; omega
    · obtain rfl : k = n := by omega
      have hconv : (convert 77 9 (.slice A (k * 128) c)).run Tryz.prog wr = .ok (.string ⟨bytes.toArray⟩) wr := by
        have ht : bytes.take (k * 128) = bytes := by rw [← HL.out, List.take_length]
        rw [ht] at hown
        cases A with
        | none =>
          obtain ⟨_, _, hv, _, _, _, hno⟩ := ownN_form hown
          injection hv with e1 e2 e3
          subst e1
          have := (hno rfl).1
          have hb0 : bytes = [] := by apply List.eq_nil_of_length_eq_zero; rw [HL.out]; exact this
          rw [this, hb0]
          exact run_convert_bytes_nil wr 77 5 Tryz.underlying77 Tryz.underlying5 0 c _ Tryz.underlying9
        | some a =>
          have := run_convert_bytes_back (P := Tryz.prog) wr 77 9 5 a c bytes Tryz.underlying77 Tryz.underlying5 Tryz.underlying9 (fun j hj => by
            have hr := Reads.of_own hown
            by_cases h0 : 0 < k * 128
            · obtain ⟨ad, e, _, hc⟩ := hr.2 h0
              injection e with e
              subst e
              exact hc j _ (bc_get _ _ hj)
            · rw [HL.out] at hj; omega)
          rw [HL.out] at this
          exact this
      have HBR := hide hbr
      clear hown hbr hdr c0 c1 hmk
      go_wp2
      go_ret
      exact ⟨rfl, HBR.out⟩

/-- What is laid after k bytes. -/
def laidB (bytes : List UInt8) (k : Nat) : List UInt8 := bytes.take k ++ List.replicate (bytes.length - k) 0
theorem laidB_length (bytes : List UInt8) (k : Nat) (hk : k ≤ bytes.length) : (laidB bytes k).length = bytes.length := by
  unfold laidB; rw [List.length_append, List.length_take, List.length_replicate]; omega
theorem laidB_zero (bytes : List UInt8) : laidB bytes 0 = List.replicate bytes.length 0 := by unfold laidB; simp
theorem laidB_all (bytes : List UInt8) : laidB bytes bytes.length = bytes := by unfold laidB; simp
theorem laidB_step (bytes : List UInt8) (k : Nat) (hk : k < bytes.length) : (bc (laidB bytes k)).toArray.setIfInBounds k (.int .u8 bytes[k].toNat) = (bc (laidB bytes (k + 1))).toArray := by
  rw [List.setIfInBounds_toArray]
  congr 1
  have h : laidB bytes (k + 1) = (laidB bytes k).set k bytes[k] := by
    unfold laidB
    rw [List.take_succ_eq_append_getElem hk]
    have hr : List.replicate (bytes.length - k) (0 : UInt8) = 0 :: List.replicate (bytes.length - (k + 1)) 0 := by
      rw [show bytes.length - k = (bytes.length - (k + 1)) + 1 by omega, List.replicate_succ]
    rw [hr, List.set_append, if_neg (by rw [List.length_take]; omega), List.length_take, Nat.min_eq_left (by omega), Nat.sub_self, List.set_cons_zero, List.append_assoc]
    rfl
  rw [h]
  unfold bc
  rw [List.map_set]

set_option maxRecDepth 100000 in
set_option maxHeartbeats 2000000 in
theorem laid_any (n : Nat) (bytes : List UInt8) (base : Nat) (w : World) (hn : n < 1000) (hL : bytes.length = n * 128) (hbase : base ≤ w.heap.size) :
    Calls Tryz.prog 175 #[.int .i64 n, .string ⟨bytes.toArray⟩] w fun e w' => ∃ b g, e = .returned (.pointer (some ⟨b, 0, none⟩)) ∧ Dk w' 0 b g base n (.slice none 0 0) Nums.new bytes [] ∧ w.heap.size ≤ b ∧ w.heap.size ≤ g ∧ Below w.heap.size w w' := by
  have HN := hide (newDisk_any n base w hbase)
  have hbn : blocksN (n : Int) = n := by unfold blocksN; rw [if_neg (by omega)]; omega
  rw [hbn] at HN
  have hsz : (⟨bytes.toArray⟩ : ByteArray).size = n * 128 := by show bytes.toArray.size = _; simp [hL]
  have HSZ := hide hsz
  have HL := hide hL
  go_enter Tryz.func175, Tryz.ntmps175
  go_wp2_with (first
    | (go_at_call 49; go_loud (
       refine HN.out.mono ?_; rintro e w1 ⟨b, g, rfl, hd1, hzb, hzg, hb1⟩
       have HD1 := hide hd1
       have HB1 := hide hb1
       clear hd1 hb1)))
  have hbg : b ≠ g := HD1.out.at_.ne_ HD1.out.blk (by decide)
  go_loopw [6] (fun i wr => ∃ k : Nat, k ≤ n * 128 ∧ i = .int .i64 k ∧ Blk wr g 111 (bc (laidB bytes k)).toArray ∧ Only (· = g) w1 wr) (fun i _ => n * 128 - (intOf i).toNat)
  case atStart => exact ⟨0, Nat.zero_le _, rfl, by rw [laidB_zero, HL.out]; exact HD1.out.blk, Only.refl _ _⟩
  case round =>
    obtain ⟨k, hk, rfl, hbk, hok⟩ := hrel
    have hdr := HD1.out.at_.only hok hbg
    have r0 : wr.cell? ⟨b, 0, none⟩ = some (.slice (some ⟨g, 0, none⟩) n n) := cellOf hdr 0 rfl
    have h128 : IntKind.i64.wrap ((n : Int) * 128) = (n : Int) * 128 := by rw [IntKind.wrap_i64]; omega
    by_cases hlt : k < n * 128
    · have hkl : k < bytes.length := by rw [HL.out]; exact hlt
      have k1 : (0 : Int) ≤ (k : Int) := by omega
      have k2 : (k : Int) < (n : Int) * 128 := by omega
      have k3 : (k : Int) / 128 < (n : Int) := by omega
      have hq : Int.tdiv (k : Int) 128 = (k : Int) / 128 := Int.tdiv_eq_ediv_of_nonneg k1
      have hm : Int.tmod (k : Int) 128 = (k : Int) % 128 := Int.tmod_eq_emod_of_nonneg k1
      have hw1 : IntKind.i64.wrap ((k : Int) / 128) = (k : Int) / 128 := by rw [IntKind.wrap_i64]; omega
      have hn1 : ((k : Int) / 128).toNat = k / 128 := by omega
      have hn2 : ((k : Int) % 128).toNat = k % 128 := by omega
      have hn3 : k / 128 * 128 + k % 128 = k := by omega
      have k4 : (0 : Int) ≤ (k : Int) / 128 := by omega
      have k5 : (0 : Int) ≤ (k : Int) % 128 := by omega
      have k6 : (k : Int) % 128 < 128 := by omega
      have cg : wr.cell? ⟨g, k, none⟩ = some (.int .u8 ((laidB bytes k)[k]'(by rw [laidB_length _ _ (by omega)]; exact hkl)).toNat) := by rw [hbk.cell]; simpa using bc_get _ _ (by rw [laidB_length _ _ (by omega)]; exact hkl)
      have zg : wr.frozen? ⟨g, k, none⟩ = false := hbk.frozen k
      have hsz2 : (k : Int) < ((⟨bytes.toArray⟩ : ByteArray).size : Int) := by rw [HSZ.out]; omega
      go_wp2
      have HBK := hide hbk
      have HOK := hide hok
      have HKL := hide hkl
      go_region
      clear cg zg hsz2 r0 hbk hok hkl
      go_wp2
      go_roundw
      case rel =>
        refine ⟨k + 1, by omega, by go_num, ?_, (HOK.out.set2 k _).drew⟩
        rw [← laidB_step bytes k HKL.out]
        exact (HBK.out.set_ k _).drew
      case measure => simp [intOf]; omega
    · obtain rfl : k = n * 128 := by omega
      have hsz2 : ¬ ((n * 128 : Nat) : Int) < ((⟨bytes.toArray⟩ : ByteArray).size : Int) := by rw [HSZ.out]; omega
      go_wp2
      go_ret
      refine ⟨b, rfl, g, ⟨hdr, ?_, HL.out, ⟨rfl, .inl ⟨rfl, rfl⟩⟩, (fun x hx => by cases hx), Nat.zero_le _, Nums.new_sm 0, by omega, ?_⟩, hzb, hzg, ?_⟩
      · have := hbk
        rw [← HL.out, laidB_all] at this
        exact this
      · have := HB1.out.size; have := hok.size; omega
      · exact HB1.out.trans (hok.to_below HB1.out.size (fun x hx => by omega))
end Go.Proofs.YtemondlgcmpbbaaGreatDoor
