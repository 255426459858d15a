/- Fx Tu Fy Dw Fz: merged. -/
import Derived.Test.YtemondlgcmpbbaaGreatDoorMD02
import Derived.Test.YtemondlgcmpbbaaGreatDoorMD37
import Derived.Test.YtemondlgcmpbbaaGreatDoorMD31
import Derived.Test.YtemondlgcmpbbaaGreatDoorMD12
import Derived.Test.YtemondlgcmpbbaaGreatDoorMD06
import Derived.Test.YtemondlgcmpbbaaGreatDoorMD34
namespace Go.Proofs.YtemondlgcmpbbaaGreatDoor
open Go.RowKit
set_option maxRecDepth 100000
theorem xor_cancel {a b p : Nat} (h : a ^^^ p = b ^^^ p) : a = b := by
 have := congrArg (· ^^^ p) h
 simpa [Nat.xor_assoc, Nat.xor_self, Nat.xor_zero] using this
theorem crcBit_top {c : Nat} (h : c < 4294967296) : (crcBit c).testBit 31 = decide (c % 2 = 1) := by
 unfold crcBit
 have h1 : (c / 2).testBit 31 = false := Nat.testBit_lt_two_pow (by omega)
 rw [Nat.testBit_xor, h1]
 by_cases hc : c % 2 = 1
 . rw [if_pos hc, decide_eq_true hc]
   decide
 . rw [if_neg hc, decide_eq_false hc]
   simp
theorem crcBit_inj {a b : Nat} (ha : a < 4294967296) (hb : b < 4294967296) (h : crcBit a = crcBit b) : a = b := by
 have ht : decide (a % 2 = 1) = decide (b % 2 = 1) := by rw [<- crcBit_top ha, <- crcBit_top hb, h]
 unfold crcBit at h
 by_cases hc : a % 2 = 1
 . have hd : b % 2 = 1 := by simpa [hc] using ht
   rw [if_pos hc, if_pos hd] at h
   have := xor_cancel h
   omega
 . have hd : ¬ b % 2 = 1 := by simpa [hc] using ht
   rw [if_neg hc, if_neg hd] at h
   have := xor_cancel h
   omega
theorem iter_inj {a b : Nat} (ha : a < 4294967296) (hb : b < 4294967296) : ∀ k, iter crcBit k a = iter crcBit k b -> a = b
 | 0, h => h
 | k + 1, h => iter_inj ha hb k (crcBit_inj (iter_lt ha k) (iter_lt hb k) h)
theorem byte_lt (x : UInt8) : x.toNat < 4294967296 := by have := x.toNat_lt; omega
theorem crcByte_inj {a b : Nat} (ha : a < 4294967296) (hb : b < 4294967296) {x : UInt8} (h : crcByte a x = crcByte b x) : a = b :=
 xor_cancel (iter_inj (xor_lt ha (byte_lt x)) (xor_lt hb (byte_lt x)) 8 h)
theorem crcByte_injx {a : Nat} (ha : a < 4294967296) {x y : UInt8} (h : crcByte a x = crcByte a y) : x = y := by
 have := iter_inj (xor_lt ha (byte_lt x)) (xor_lt ha (byte_lt y)) 8 h
 rw [Nat.xor_comm a, Nat.xor_comm a] at this
 exact UInt8.toNat_inj.1 (xor_cancel this)
theorem crcFold_inj : ∀ (l : List UInt8) {a b : Nat}, a < 4294967296 -> b < 4294967296 -> l.foldl crcByte a = l.foldl crcByte b -> a = b
 | [], _, _, _, _, h => h
 | x :: l, _, _, ha, hb, h => crcByte_inj ha hb (crcFold_inj l (crcByte_lt ha x) (crcByte_lt hb x) h)
theorem crcFold_set : ∀ (l : List UInt8) (j : Nat) (y : UInt8) {a : Nat} (hj : j < l.length), a < 4294967296 -> y ≠ l[j] -> (l.set j y).foldl crcByte a ≠ l.foldl crcByte a
 | x :: l, 0, y, a, _, ha, hy => fun h => hy (crcByte_injx ha (crcFold_inj l (crcByte_lt ha y) (crcByte_lt ha x) h))
 | x :: l, j + 1, y, a, hj, ha, hy => crcFold_set l j y (by simpa using hj) (crcByte_lt ha x) (by simpa using hy)
theorem crcN_set (l : List UInt8) (j : Nat) (y : UInt8) (hj : j < l.length) (hy : y ≠ l[j]) : crcN (l.set j y) ≠ crcN l := by
 intro h
 unfold crcN at h
 rw [Nat.xor_comm, Nat.xor_comm 4294967295] at h
 exact crcFold_set l j y hj (by omega) hy (xor_cancel h)
theorem toNat_ne {x y : UInt8} (h : y ≠ x) : y.toNat ≠ x.toNat := fun e => h (UInt8.toNat_inj.1 e)
theorem sealedN_set (B : List UInt8) (j : Nat) (y : UInt8) (h4 : 4 <= B.length) (hj : j < B.length) (hy : y ≠ B[j]) (hs : sealedN B = true) : sealedN (B.set j y) = false := by
 match B, h4, hj, hy, hs with
 | a :: b :: c :: d :: r, _, hj, hy, hs =>
   unfold sealedN at hs ⊢
   have he : get4 (a :: b :: c :: d :: r) = crcN r := by simpa using hs
   have h1 := a.toNat_lt; have h2 := b.toNat_lt; have h3 := c.toNat_lt; have h4 := d.toNat_lt; have h5 := y.toNat_lt
   rw [beq_eq_false_iff_ne]
   match j, hj, hy with
   | 0, _, hy => have := toNat_ne hy; simp only [List.set_cons_zero, get4, List.drop_succ_cons, List.drop_zero, List.getElem_cons_zero] at this he ⊢; omega
   | 1, _, hy => have := toNat_ne hy; simp only [List.set_cons_succ, List.set_cons_zero, get4, List.drop_succ_cons, List.drop_zero, List.getElem_cons_succ, List.getElem_cons_zero] at this he ⊢; omega
   | 2, _, hy => have := toNat_ne hy; simp only [List.set_cons_succ, List.set_cons_zero, get4, List.drop_succ_cons, List.drop_zero, List.getElem_cons_succ, List.getElem_cons_zero] at this he ⊢; omega
   | 3, _, hy => have := toNat_ne hy; simp only [List.set_cons_succ, List.set_cons_zero, get4, List.drop_succ_cons, List.drop_zero, List.getElem_cons_succ, List.getElem_cons_zero] at this he ⊢; omega
   | j + 4, hj, hy =>
     intro h
     simp only [List.set_cons_succ, get4, List.drop_succ_cons, List.drop_zero] at h he
     exact crcN_set r j y (by simpa using hj) (by simpa using hy) (by rw [<- h, he])
theorem bc_set (l : List UInt8) (i : Nat) (y : UInt8) : bc (l.set i y) = (bc l).set i (.int .u8 y.toNat) := by simp [bc, List.map_set]
theorem dread_set_other {bytes : List UInt8} {k j i : Nat} {y : UInt8} (hj : j < 128) (hne : i ≠ k) : dread (bytes.set (k * 128 + j) y) [] i = dread bytes [] i := by
 rw [dread_nil, dread_nil]
 apply List.ext_getElem?
 intro t
 rw [List.getElem?_take, List.getElem?_take]
 split
 . rw [List.getElem?_drop, List.getElem?_drop, List.getElem?_set_ne (by omega)]
 . rfl
theorem dread_set_same {bytes : List UInt8} {k j : Nat} {y : UInt8} : dread (bytes.set (k * 128 + j) y) [] k = (dread bytes [] k).set j y := by
 rw [dread_nil, dread_nil, List.drop_set, if_neg (by omega), List.take_set, Nat.add_sub_cancel_left]
set_option maxHeartbeats 1000000 in
theorem turned_any {K b g base base' n : Nat} {m : Nums} {bytes : List UInt8} {w : World} (bit : Int) (_hbit : I64 bit) (h : Dk w K b g base n (.slice none 0 0) m bytes []) (hn : 0 < n) (hb' : base' <= w.heap.size) :
   Calls Tryz.prog 39 #[.pointer (some ⟨b, 0, none⟩), .int .i64 bit] w fun e w' => ∃ b' g' bytes' k j y, e = .returned (.pointer (some ⟨b', 0, none⟩)) /\ Dk w' 0 b' g' base' n (.slice none 0 0) Nums.new bytes' [] /\ k < n /\ j < 128 /\ (∀ i, i < n -> i ≠ k -> dread bytes' [] i = dread bytes [] i) /\ (∀ hj : j < (dread bytes [] k).length, y ≠ (dread bytes [] k)[j]) /\ dread bytes' [] k = (dread bytes [] k).set j y /\ w.heap.size <= b' /\ w.heap.size <= g' /\ Below w.heap.size w w' := by
 have h1000 := h.fits
 have hA := hide (after_any (base' := base') (A := none) (kn := 0) (kc := 0) h hn hb')
 obtain ⟨B, hB, hBl⟩ : ∃ B : Nat, Int.tmod (Int.tmod bit ((n : Int) * 128 * 8) + (n : Int) * 128 * 8) ((n : Int) * 128 * 8) = (B : Int) /\ B < n * 1024 := by
   have h0 : (0 : Int) < (n : Int) * 128 * 8 := by omega
   have h1 := Int.lt_tmod_of_pos bit h0
   have h2 := Int.emod_nonneg (Int.tmod bit ((n : Int) * 128 * 8) + (n : Int) * 128 * 8) (by omega : (n : Int) * 128 * 8 ≠ 0)
   have h3 := Int.emod_lt_of_pos (Int.tmod bit ((n : Int) * 128 * 8) + (n : Int) * 128 * 8) h0
   refine ⟨((Int.tmod bit ((n : Int) * 128 * 8) + (n : Int) * 128 * 8) % ((n : Int) * 128 * 8)).toNat, ?_, by omega⟩
   rw [Int.tmod_eq_emod_of_nonneg (by omega)]
   omega
 have ht1 : -((n : Int) * 128 * 8) < Int.tmod bit ((n : Int) * 128 * 8) := Int.lt_tmod_of_pos bit (by omega)
 have ht2 : Int.tmod bit ((n : Int) * 128 * 8) < (n : Int) * 128 * 8 := Int.tmod_lt_of_pos bit (by omega)
 have w1 : IntKind.i64.wrap ((n : Int) * 128) = (n : Int) * 128 := by rw [IntKind.wrap_i64]; omega
 have w2 : IntKind.i64.wrap ((n : Int) * 128 * 8) = (n : Int) * 128 * 8 := by rw [IntKind.wrap_i64]; omega
 obtain ⟨q, hq⟩ : ∃ q, q = Int.tmod bit ((n : Int) * 128 * 8) := ⟨_, rfl⟩
 rw [<- hq] at hB ht1 ht2
 have w3 : IntKind.i64.wrap (q + (n : Int) * 128 * 8) = q + (n : Int) * 128 * 8 := by rw [IntKind.wrap_i64]; omega
 obtain ⟨p, hp⟩ : ∃ p, p = B / 8 := ⟨_, rfl⟩
 obtain ⟨k, hk⟩ : ∃ k, k = p / 128 := ⟨_, rfl⟩
 obtain ⟨j, hj⟩ : ∃ j, j = p % 128 := ⟨_, rfl⟩
 obtain ⟨s, hs⟩ : ∃ s, s = B % 8 := ⟨_, rfl⟩
 have e1 : Int.tdiv (B : Int) 8 = (p : Int) := by rw [Int.tdiv_eq_ediv_of_nonneg (by omega)]; omega
 have e2 : Int.tdiv (p : Int) 128 = (k : Int) := by rw [Int.tdiv_eq_ediv_of_nonneg (by omega)]; omega
 have e3 : Int.tmod (p : Int) 128 = (j : Int) := by rw [Int.tmod_eq_emod_of_nonneg (by omega)]; omega
 have e4 : Int.tmod (B : Int) 8 = (s : Int) := by rw [Int.tmod_eq_emod_of_nonneg (by omega)]; omega
 have v1 : IntKind.i64.wrap (p : Int) = (p : Int) := by rw [IntKind.wrap_i64]; omega
 have v2 : IntKind.i64.wrap (k : Int) = (k : Int) := by rw [IntKind.wrap_i64]; omega
 have hkn : k < n := by omega
 have hj128 : j < 128 := by omega
 have hs8 : s < 8 := by omega
 have v3 : IntKind.u8.wrap ((2 : Int) ^ s) = (2 : Int) ^ s := (by decide : ∀ t, t < 8 -> IntKind.u8.wrap ((2 : Int) ^ t) = (2 : Int) ^ t) s hs8
 have x0 : ¬ (n : Int) * 128 * 8 = 0 := by omega
 have x1 : (0 : Int) < (n : Int) * 128 * 8 := by omega
 have x2 : (0 : Int) <= (k : Int) := by omega
 have x3 : (k : Int) < (n : Int) := by omega
 have x4 : (0 : Int) <= (j : Int) := by omega
 have x5 : (j : Int) < 128 := by omega
 have HQ := hide hq
 have y1 : Int.tmod bit ((n : Int) * 128 * 8) = q := hq.symm
 clear h hq hp hk hj hs _hbit
 go_enter Tryz.func39, Tryz.ntmps39
 go_wp2_with (go_at_call 34; go_loud (
    refine hA.out.mono ?_; rintro e w1 ⟨b1, g1, bytes1, rfl, hd1, he1, hb1, hg1, hB1⟩
    have c0 : w1.cell? ⟨b1, 0, none⟩ = some (.slice (some ⟨g1, 0, none⟩) n (capB bytes1)) := cellOf hd1.at_ 0 rfl
    have hlen := hd1.len
    have hcap := hd1.cap
    have hbl : k * 128 + j < bytes1.length := by rw [hlen]; have := Nat.mul_le_mul_right 128 (Nat.le_trans hkn hcap); omega
    have c1 : w1.cell? ⟨g1, k * 128 + j, none⟩ = some (.int .u8 bytes1[k * 128 + j].toNat) := cellOf hd1.blk (k * 128 + j) (by simpa using bc_get bytes1 _ hbl)
    have f1 : w1.frozen? ⟨g1, k * 128 + j, none⟩ = false := hd1.blk.frozen _
    have HD1 := hide hd1
    have HE1 := hide he1
    have HB1 := hide hB1
    have HBG := hide (And.intro hb1 hg1)
    clear hd1 he1 hb1 hg1 hB1 hlen hcap))
 refine wp_region_staged (fun w' => w'.cell? ⟨b1, 0, none⟩ = some (.slice (some ⟨g1, 0, none⟩) n (capB bytes1)) /\ w'.cell? ⟨g1, k * 128 + j, none⟩ = some (.int .u8 bytes1[k * 128 + j].toNat)) (fun _ => True) #[true, true, true, true, true, true, true, true, true, true, true, true, true, true, true, true, true, true, false, false] (by kernel_rfl) ⟨c0, c1⟩ ?_
 intro hS0
 refine wpAnyS_t 0 (.pointer (some ⟨b1, 0, none⟩)) (some 25) rfl rfl (.inl ⟨rfl, fun w' hSw => by clear hSw; go_simp⟩) hS0 ?_
 simp only [Act.put, n1, n2, n3]
 refine wpAnyS_t 1 (.pointer (some ⟨b1, 0, none⟩)) (some 26) rfl rfl (.inl ⟨rfl, fun w' hSw => by clear hSw; go_simp⟩) hS0 ?_
 simp only [Act.put, n1, n2, n3]
 refine wpAnyS_t 2 (.pointer (some ⟨b1, 0, none⟩)) (some 27) rfl rfl (.inl ⟨rfl, fun w' hSw => by clear hSw; go_simp⟩) hS0 ?_
 simp only [Act.put, n1, n2, n3]
 refine wpAnyS_t 3 (.slice (some ⟨g1, 0, none⟩) n (capB bytes1)) (some 28) rfl rfl (.inl ⟨rfl, fun w' hSw => by have s1 := hSw.1; clear hSw; go_simp⟩) hS0 ?_
 simp only [Act.put, n1, n2, n3]
 refine wpAnyS_t 4 (.int .i64 (B : Nat)) (some 29) rfl rfl (.inl ⟨rfl, fun w' hSw => by clear hSw; go_simp⟩) hS0 ?_
 simp only [Act.put, n1, n2, n3]
 refine wpAnyS_t 5 (.int .i64 (p : Nat)) (some 30) rfl rfl (.inl ⟨rfl, fun w' hSw => by clear hSw; go_simp⟩) hS0 ?_
 simp only [Act.put, n1, n2, n3]
 refine wpAnyS_t 6 (.int .i64 (k : Nat)) (some 31) rfl rfl (.inl ⟨rfl, fun w' hSw => by clear hSw; go_simp⟩) hS0 ?_
 simp only [Act.put, n1, n2, n3]
 refine wpAnyS_t 7 (.int .i64 (B : Nat)) (some 32) rfl rfl (.inl ⟨rfl, fun w' hSw => by clear hSw; go_simp⟩) hS0 ?_
 simp only [Act.put, n1, n2, n3]
 refine wpAnyS_t 8 (.int .i64 (p : Nat)) (some 33) rfl rfl (.inl ⟨rfl, fun w' hSw => by clear hSw; go_simp⟩) hS0 ?_
 simp only [Act.put, n1, n2, n3]
 refine wpAnyS_t 9 (.int .i64 (j : Nat)) (some 34) rfl rfl (.inl ⟨rfl, fun w' hSw => by clear hSw; go_simp⟩) hS0 ?_
 simp only [Act.put, n1, n2, n3]
 refine wpAnyS_t 10 (.pointer (some ⟨g1, k * 128, none⟩)) (some 35) rfl rfl (.inl ⟨rfl, fun w' hSw => by clear hSw; go_simp⟩) hS0 ?_
 simp only [Act.put, n1, n2, n3]
 refine wpAnyS_t 11 (.pointer (some ⟨g1, k * 128 + j, none⟩)) (some 36) rfl rfl (.inl ⟨rfl, fun w' hSw => by clear hSw; go_simp⟩) hS0 ?_
 simp only [Act.put, n1, n2, n3]
 refine wpAnyS_t 12 (.int .u8 bytes1[k * 128 + j].toNat) (some 37) rfl rfl (.inl ⟨rfl, fun w' hSw => by have s1 := hSw.2; clear hSw; go_simp⟩) hS0 ?_
 simp only [Act.put, n1, n2, n3]
 refine wpAnyS_t 13 (.int .i64 (B : Nat)) (some 38) rfl rfl (.inl ⟨rfl, fun w' hSw => by clear hSw; go_simp⟩) hS0 ?_
 simp only [Act.put, n1, n2, n3]
 refine wpAnyS_t 14 (.int .i64 (s : Nat)) (some 39) rfl rfl (.inl ⟨rfl, fun w' hSw => by clear hSw; go_simp⟩) hS0 ?_
 simp only [Act.put, n1, n2, n3]
 refine wpAnyS_t 15 (.int .u8 (2 ^ s : Nat)) (some 40) rfl rfl (.inl ⟨rfl, fun w' hSw => by clear hSw; go_simp⟩) hS0 ?_
 simp only [Act.put, n1, n2, n3]
 refine wpAnyS_t 16 (.int .u8 (bits .xor .u8 (bytes1[k * 128 + j].toNat : Int) ((2 ^ s : Nat) : Int))) (some 41) rfl rfl (.inl ⟨rfl, fun w' hSw => by clear hSw; go_simp⟩) hS0 ?_
 simp only [Act.put, n1, n2, n3]
 refine wpAnyS_t 17 (.pointer (some ⟨g1, k * 128, none⟩)) (some 42) rfl rfl (.inl ⟨rfl, fun w' hSw => by clear hSw; go_simp⟩) hS0 ?_
 simp only [Act.put, n1, n2, n3]
 refine wpAnyS_stop ?_
 refine wpAnyH_t 18 (.pointer (some ⟨g1, k * 128 + j, none⟩)) (some 43) rfl rfl (.inl ⟨rfl, fun w' hSw => by go_simp⟩) trivial ?_
 simp only [Act.put, n1, n2, n3]
 refine wpAnyH_one (i := 19) (by kernel_rfl) rfl rfl ?_
 go_simp
 refine wpAnyH_done (by kernel_rfl) ?_ _
 go_wp2
 go_ret
 have hx2 : (dread bytes1 [] k)[j]? = some bytes1[k * 128 + j] := by
   rw [dread_nil, List.getElem?_take, if_pos hj128, List.getElem?_drop, List.getElem?_eq_getElem hbl]
 rw [HE1.out k hkn] at hx2
 obtain ⟨x, hx⟩ : ∃ x, x = bytes1[k * 128 + j] := ⟨_, rfl⟩
 rw [<- hx] at hx2 ⊢
 have hp2 : 2 ^ s < 256 := (by decide : ∀ t, t < 8 -> 2 ^ t < 256) s hs8
 have hxb : x.toNat < 256 := x.toNat_lt
 have hyb : x.toNat ^^^ 2 ^ s < 256 := Nat.xor_lt_two_pow (n := 8) hxb hp2
 have hbx : bits .xor .u8 (x.toNat : Int) ((2 : Int) ^ s) = ((UInt8.ofNat (x.toNat ^^^ 2 ^ s)).toNat : Int) := by
   have := u8_xor_nat x.toNat (2 ^ s) hxb hp2
   rw [ofNat_toNat _ hyb, <- this, Int.natCast_pow]
   rfl
 have hne : UInt8.ofNat (x.toNat ^^^ 2 ^ s) ≠ x := fun e => by
   have := congrArg UInt8.toNat e
   rw [ofNat_toNat _ hyb] at this
   have h0 : 2 ^ s = 0 := xor_cancel (p := x.toNat) (by rw [Nat.zero_xor, Nat.xor_comm]; exact this)
   have := Nat.two_pow_pos s
   omega
 rw [hbx]
 have hno : b1 ≠ g1 := HD1.out.at_.ne_ HD1.out.blk (by decide)
 have ho : Only (fun z => z = g1) w1 (w1.setCell ⟨g1, k * 128 + j, none⟩ (.int .u8 (UInt8.ofNat (x.toNat ^^^ 2 ^ s)).toNat)) := Only.set1 w1 g1 (k * 128 + j) _
 have hcb : capB (bytes1.set (k * 128 + j) (UInt8.ofNat (x.toNat ^^^ 2 ^ s))) = capB bytes1 := by unfold capB; rw [List.length_set]
 have hbk := HD1.out.blk.set_ (k * 128 + j) (.int .u8 (UInt8.ofNat (x.toNat ^^^ 2 ^ s)).toNat)
 rw [List.setIfInBounds_toArray, <- bc_set] at hbk
 refine ⟨b1, g1, bytes1.set (k * 128 + j) (UInt8.ofNat (x.toNat ^^^ 2 ^ s)), k, j, UInt8.ofNat (x.toNat ^^^ 2 ^ s), rfl, ⟨?_, hbk.drew, ?_, ?_, ⟨rfl, .inl ⟨rfl, rfl⟩⟩, (fun x hx => by cases hx), Nat.zero_le _, Nums.new_sm 0, h1000, ?_⟩, hkn, hj128, fun i hi hne => ?_, fun hj => ?_, ?_, HBG.out.1, HBG.out.2, ?_⟩
 . rw [hcb]; exact (Blk.only HD1.out.at_ ho hno).drew
 . rw [hcb, List.length_set]; exact HD1.out.len
 . rw [hcb]; exact HD1.out.cap
 . exact Nat.le_trans HD1.out.base_ ho.size
 . rw [dread_set_other hj128 hne]; exact HE1.out i hi
 . have : (dread bytes [] k)[j] = x := Option.some.inj ((List.getElem?_eq_getElem hj).symm.trans hx2)
   rw [this]; exact hne
 . rw [dread_set_same, HE1.out k hkn]
 . exact Below.drew (HB1.out.trans (ho.to_below HB1.out.size fun z e => e ▸ HBG.out.2))
theorem pOk_set_lt {B : List UInt8} {j : Nat} {y : UInt8} (hl : B.length = 128) (hj : j < 32) (hy : ∀ h : j < B.length, y ≠ B[j]) (hp : pOk B = true) : pOk (B.set j y) = false := by
 unfold pOk at hp ⊢
 have hs : sealedN (B.take 32) = true := by simp only [Bool.and_eq_true] at hp; exact hp.1.1.1.1
 have h32 : (B.take 32).length = 32 := by rw [List.length_take]; omega
 rw [List.take_set, sealedN_set (B.take 32) j y (by omega) (by omega) (by rw [List.getElem_take]; exact hy (by omega)) hs]
 simp
theorem take_set_ge {B : List UInt8} {j : Nat} {y : UInt8} (hj : 32 <= j) : (B.set j y).take 32 = B.take 32 := by
 rw [List.take_set, List.set_eq_of_length_le (by rw [List.length_take]; omega)]
theorem pOk_set_ge {B : List UInt8} {j : Nat} {y : UInt8} (hj : 32 <= j) : pOk (B.set j y) = pOk B := by
 unfold pOk pMagic pGen pBlk pRgen
 rw [take_set_ge hj]
theorem headOf_set_ge {B : List UInt8} {j s : Nat} {y : UInt8} (hj : 32 <= j) : headOf s (B.set j y) = headOf s B := by
 unfold headOf pGen pBlk pRgen
 rw [take_set_ge hj]
theorem heads_flip {c c' : Nat -> List UInt8} {h1 h2 : Hd} (hh : headsN c = [h1, h2]) {k j : Nat} {y : UInt8} (hk2 : k < 2) (hlen : ∀ i, i < 2 -> (c i).length = 128) (hy : ∀ h : j < (c k).length, y ≠ (c k)[j]) (ho : ∀ i, i < 2 -> i ≠ k -> c' i = c i) (hk : c' k = (c k).set j y) :
   headsN c' = [h1, h2] \/ headsN c' = [h1] \/ headsN c' = [h2] := by
 unfold headsN at hh ⊢
 rw [headUp2] at hh ⊢
 by_cases p0 : pOk (c 0) = true
 . by_cases p1 : pOk (c 1) = true
   . rw [if_pos p0, if_pos p1] at hh
     have hn : newest [headOf 0 (c 0), headOf 1 (c 1)] = [h1, h2] := hh
     have hor : (headOf 0 (c 0) = h1 /\ headOf 1 (c 1) = h2) \/ (headOf 0 (c 0) = h2 /\ headOf 1 (c 1) = h1) := by
       have hn : (if (headOf 0 (c 0)).gen < (headOf 1 (c 1)).gen then [headOf 1 (c 1), headOf 0 (c 0)] else [headOf 0 (c 0), headOf 1 (c 1)]) = [h1, h2] := hn
       split at hn
       . injection hn with a b
         injection b with b
         exact .inr ⟨b, a⟩
       . injection hn with a b
         injection b with b
         exact .inl ⟨a, b⟩
     have hkk : k = 0 \/ k = 1 := by omega
     by_cases hj : j < 32
     . rcases hkk with rfl | rfl
       . rw [hk, ho 1 (by omega) (by omega), pOk_set_lt (hlen 0 (by omega)) hj hy p0, if_pos p1]
         right
         rcases hor with ⟨_, b⟩ | ⟨_, b⟩
         . rw [b]; exact .inr rfl
         . rw [b]; exact .inl rfl
       . rw [hk, ho 0 (by omega) (by omega), pOk_set_lt (hlen 1 (by omega)) hj hy p1, if_pos p0]
         right
         rcases hor with ⟨a, _⟩ | ⟨a, _⟩
         . rw [a]; exact .inl rfl
         . rw [a]; exact .inr rfl
     . left
       rcases hkk with rfl | rfl
       . rw [hk, ho 1 (by omega) (by omega), pOk_set_ge (by omega), headOf_set_ge (by omega), if_pos p0, if_pos p1]
         exact hh
       . rw [hk, ho 0 (by omega) (by omega), pOk_set_ge (by omega), headOf_set_ge (by omega), if_pos p0, if_pos p1]
         exact hh
   . rw [if_neg p1, List.append_nil] at hh
     split at hh <;> cases hh
 . rw [if_neg p0, List.nil_append] at hh
   split at hh <;> cases hh
theorem dcommit_two {bytes : List UInt8} {n c : Nat} {hd : Hd} {T1 : Tree} {xs : List Nat} (hb : bytes.length = c * 128) (hnc : n <= c) (hn : 8 <= n /\ n <= 400) (hh : ∃ tl, headsN (dread bytes []) = hd :: tl) (hgen : hd.gen + 1 < 1073741824) (hu : TF T1) (hc : CInv (dread bytes []) n hd.gen T1) (hsz : TN (fun h n => Tr.size h n <= 116 /\ 1 <= Tr.len h n) T1)
   (hxs : xs.Nodup) (hxb : ∀ x ∈ xs, (2 <= x /\ x < n) /\ x ∉ T1.cblks) (hxl : xs.length = tdirty T1) {g : Nat} (hg : g = hd.gen + 1) {TT : Tree} (hT : TT = T1.lay g true xs) :
   headsN (dread (dset (dflush bytes (wlist TT)) (1 - hd.slot, pad 128 (headB g TT.rblk TT.rgen))) []) = [⟨1 - hd.slot, g, TT.rblk, TT.rgen⟩, hd] /\
   ∀ i, 2 <= i -> i < n -> i ∉ xs -> dread (dset (dflush bytes (wlist TT)) (1 - hd.slot, pad 128 (headB g TT.rblk TT.rgen))) [] i = dread bytes [] i := by
 obtain ⟨tl, hh⟩ := hh
 obtain ⟨hsl, _, _⟩ := headUp_at _ 2 hd (headsN_mem _ hd (by rw [hh]; exact List.mem_cons_self ..))
 have hpl : (pad 128 (headB g TT.rblk TT.rgen)).length = 128 := pad_length _ _ (by show (32 : Nat) <= 128; omega)
 cases hr : T1.root with
 | none =>
   have hTr : TT.root = none := by rw [hT]; unfold Tree.lay; rw [hr]; rfl
   have hw : wlist TT = [] := by unfold wlist Tree.dlist; rw [hTr]; rfl
   have hrb : TT.rblk = 0 := by unfold Tree.rblk; rw [hTr]
   have hrg : TT.rgen = 0 := by unfold Tree.rgen; rw [hTr]
   have hT0 : (T1.lay g false xs).root = none := by unfold Tree.lay; rw [hr]; rfl
   rw [hw, hrb, hrg]
   rw [hrb, hrg] at hpl
   refine ⟨?_, fun i h2 hi _ => dread_dset_other hb (by omega) (by omega) hpl (by omega)⟩
   refine heads_new hh ?_ ?_ (by omega) (by omega) (by omega) (by omega) (.inr rfl)
   . exact dread_dset_other hb (by omega) (by omega) hpl (by omega)
   . exact dread_dset_same hb (by omega) hpl
 | some r =>
   obtain ⟨h, t⟩ := r
   have hTr : TT.root = some ⟨h, lay g true h t xs⟩ := by rw [hT]; unfold Tree.lay; rw [hr]; rfl
   have hT0 : (T1.lay g false xs).root = some ⟨h, lay g false h t xs⟩ := by unfold Tree.lay; rw [hr]; rfl
   have hw : wlist TT = (dlist h (lay g true h t xs)).map fun x => (Tr.blk x.1 x.2, nby x.1 x.2) := by unfold wlist Tree.dlist; rw [hTr]
   have hcb : T1.cblks = cblks h t := by unfold Tree.cblks; rw [hr]
   have htd : tdirty T1 = dcount h t := by unfold tdirty; rw [hr]
   rw [hcb] at hxb
   rw [htd] at hxl
   obtain ⟨_, hfit, hdu, _⟩ := hu.some_ h t hr
   have hq := hc.on h t hr
   have hs := hsz h t hr
   have hdb := dlist_blk g h t xs hdu hxl
   have hfst : (wlist TT).map (·.1) = xs := by
     rw [hw, List.map_map]
     exact hdb
   have hlayfit : Fit h (lay g true h t xs) := (lay_like g true h t xs).fit hfit
   have hwok : ∀ x ∈ wlist TT, x.1 < n /\ x.2.length = 128 := by
     intro x hx
     refine ⟨(hxb x.1 (by rw [<- hfst]; exact List.mem_map.2 ⟨x, hx, rfl⟩)).1.2, ?_⟩
     rw [hw] at hx
     obtain ⟨y, hy, rfl⟩ := List.mem_map.1 hx
     have := (dlist_NS h _ (fit_NS h _ hlayfit) y hy).here
     exact nby_len this
   have hwokc : ∀ x ∈ wlist TT, x.1 < c /\ x.2.length = 128 := fun x hx => ⟨Nat.lt_of_lt_of_le (hwok x hx).1 hnc, (hwok x hx).2⟩
   have hb2 : (dflush bytes (wlist TT)).length = c * 128 := dflush_length (wlist TT) bytes hb hwokc
   obtain ⟨rd', hrd'⟩ : ∃ rd', rd' = dread (dset (dflush bytes (wlist TT)) (1 - hd.slot, pad 128 (headB g TT.rblk TT.rgen))) [] := ⟨_, rfl⟩
   have hoth : ∀ i, i < n -> i ≠ 1 - hd.slot -> rd' i = dread (dflush bytes (wlist TT)) [] i := fun i hi hne => by rw [hrd']; exact dread_dset_other hb2 (by omega) (Nat.lt_of_lt_of_le hi hnc) hpl hne
   have hold : ∀ i, i < n -> i ≠ 1 - hd.slot -> i ∉ xs -> rd' i = dread bytes [] i := fun i hi hne hx => by
     rw [hoth i hi hne]
     exact dread_dflush_other (wlist TT) bytes i hb hwokc (Nat.lt_of_lt_of_le hi hnc) (fun x hx' e => hx (by rw [<- hfst]; exact List.mem_map.2 ⟨x, hx', e⟩))
   have hon := lay_on (rd' := rd') (show hd.gen <= g by omega) h t xs hdu hxl hq hs (fun x hx => (hxb x hx).1) (fun b hb' => by
       obtain ⟨b1, b2⟩ := cb_bounds hq b hb'
       exact hold b b2 (by omega) (fun hx => (hxb b hx).2 hb')) (fun x hx => by
       have hm : (Tr.blk x.1 x.2, nby x.1 x.2) ∈ wlist TT := by rw [hw]; exact List.mem_map.2 ⟨x, hx, rfl⟩
       have hbx : Tr.blk x.1 x.2 ∈ xs := by rw [<- hfst]; exact List.mem_map.2 ⟨_, hm, rfl⟩
       obtain ⟨b1, b2⟩ := (hxb _ hbx).1
       rw [hoth _ b2 (by omega)]
       exact dread_dflush_in (wlist TT) bytes _ _ hb hwokc (by rw [hfst]; exact hxs) hm)
   have hrt : TT.rblk = Tr.blk h (lay g false h t xs) /\ TT.rgen = Tr.gen h (lay g false h t xs) := by
     unfold Tree.rblk Tree.rgen
     rw [hTr]
     exact lay_blk g true false h t xs
   have hhere := hon.here
   have hrb : 2 <= TT.rblk /\ TT.rblk < n := by rw [hrt.1]; exact hhere.1
   have hrg : TT.rgen <= g := by rw [hrt.2]; exact hhere.2.1
   rw [<- hrd']
   refine ⟨?_, fun i h2 hi hx => hold i hi (by omega) hx⟩
   refine heads_new hh ?_ ?_ (by omega) (by omega) (by omega) (by omega) (.inl (by omega))
   . exact hold hd.slot (by omega) (by omega) (fun hx => by have := (hxb _ hx).1.1; omega)
   . rw [hrd']; exact dread_dset_same hb2 (by omega) hpl
variable {N K b n x G : Nat} {wr : Value} {T : Tree} {r : SR} {rs : List Rdr} {w w' : World}
theorem sr_commitF {V V' : Str -> Prop} {t S : Nat} {T1 : Tree} {rp : Value} {ds : List Nat} {stamp : Int} (h : StoreR N w K b n x G (.pointer (some ⟨t, 0, none⟩)) T r []) (ht : Trans N w t x S T1 rp ds stamp) (hg : Good V T1) (hg0 : Good V' T) (hn : 8 <= n /\ n <= 400) (hG : G + 1 < 1073741824) (hK : K + 200 < edge) (hroom : T1.keys + T.keys + 10 <= n) (hd : tdirty T1 <= 190) (hh : ∃ tl, headsN (dread r.bytes []) = r.hd :: tl) (hC : CInv (dread r.bytes []) n r.hd.gen T1) :
   Calls Tryz.prog 26 #[.pointer (some ⟨t, 0, none⟩)] w fun e w' => e = .returned .nilIface /\ (∃ T' r', StoreR N w' (K + 200) b n x (G + 1) (.pointer none) T' r' [] /\ Good V T' /\ tdirty T' = 0 /\ T'.pairs = T1.pairs /\ T'.keys = T1.keys /\ DInv (dread r'.bytes []) n r'.hd T' /\ headsN (dread r'.bytes []) = [r'.hd, r.hd] /\ ∀ i, 2 <= i -> i < n -> i ∈ T.blks -> dread r'.bytes [] i = dread r.bytes [] i) /\ KpP N w w' := by
 have hlen : ds.length = tdirty T1 := ht.tree.count
 have hrm := room_of hg hg0 (rp0 := r.rp) hlen hroom
 have hxl : (comXs [(T, r.rp, [])] T1 n ds.length).length = tdirty T1 := by
   unfold comXs
   rw [List.length_take, <- hlen]
   exact Nat.min_eq_left hrm
 have hxb : ∀ y ∈ comXs [(T, r.rp, [])] T1 n ds.length, (2 <= y /\ y < n) /\ y ∉ T1.cblks := fun y hy => by
   obtain ⟨a1, a2, a3⟩ := fr_mem (List.mem_of_mem_take hy)
   refine ⟨⟨a1, a2⟩, fun hm => a3 ?_⟩
   unfold usedL
   rw [mem_inss]
   exact .inr hm
 have hDI := dinv_commit (g := r.hd.gen + 1) h.disk.len h.disk.cap hn hh (by have := h.gen; omega) hg.tf hC hg.tf.sizes ((fr_nodup _ _ _).sublist (List.take_sublist ..)) hxb hxl rfl rfl
 have hTW := dcommit_two (g := r.hd.gen + 1) h.disk.len h.disk.cap hn hh (by have := h.gen; omega) hg.tf hC hg.tf.sizes ((fr_nodup _ _ _).sublist (List.take_sublist ..)) hxb hxl rfl rfl
 have hxo : ∀ y ∈ comXs [(T, r.rp, [])] T1 n ds.length, y ∉ T.blks := fun y hy hm => (fr_mem (List.mem_of_mem_take hy)).2.2 (by
   unfold usedL
   rw [mem_inss]
   exact .inl ((mem_inss _ _).2 (.inr (by simpa using hm))))
 refine (xcommit_ok t x rp T1 ds stamp ⟨r.dk, r.rp, T.keys, .pointer (some ⟨t, 0, none⟩), r.rd, false⟩ T K b r.g r.base n (.slice none 0 0) r.m r.bytes [] r.hd w ht.tx h.db rfl h.rd rfl
   ⟨h.disk, h.calm, h.dkb, ht.tree, ht.nd, h.tree, hn, h.slot, by have := h.gen; omega, hg.tf.q0, hg.sm, hrm, by omega, by simp⟩).mono ?_
 rintro e w' ⟨rfl, hp⟩
 have hgen := h.gen
 have hlay := hg.lay (g := r.hd.gen + 1) (n0 := n) (xs := comXs [(T, r.rp, [])] T1 n ds.length) (by omega) (by omega) (by omega) (fun y hy => (fr_mem (List.mem_of_mem_take hy)).2.1)
 refine ⟨rfl, ⟨T1.lay (r.hd.gen + 1) false (comXs [(T, r.rp, [])] T1 n ds.length), ⟨r.g, r.base, _, _, r.dk, r.rd, ⟨1 - r.hd.slot, r.hd.gen + 1, _, _⟩, rp⟩, ⟨hp.disk.more (by omega), ?_, hp.dkb, by show 1 - r.hd.slot < 2; omega, by show r.hd.gen + 1 <= G + 1; omega, hp.db, hp.rd, hp.tree, h.nb, h.ng, h.ndk, h.nx, h.nrd, (fun _ h => by cases h), List.nodup_nil⟩, hlay.1, hlay.2, Tree.lay_pairs _ _ _ _, rfl, hDI, hTW.1, fun i h2 hi hm => hTW.2 i h2 hi fun hx => hxo i hx hm⟩, KpP.of_only hp.only h.size (fun y e => ?_) fun y cs hy e => ?_⟩
 . exact ((wrotes_calm h.calm _).tick.wrote).tick
 . rcases e with (e | rfl | e) | rfl | rfl | rfl
   . rcases e with rfl | rfl | e
     . exact h.nb
     . exact h.ng
     . simp [Value.ownBlock] at e
   . exact h.ndk
   . exact ht.nds y e
   . exact ht.nt
   . exact h.nx
   . exact h.nrd
 . rcases e with (e | e | e) | e | e | e
   . exact h.disk.ne hy (by decide) (by decide) (by decide) e
   . exact Blk.ne_ hy h.dkb (by decide) e
   . obtain ⟨_, _, _, _, hn⟩ := ht.tree.dirt _ e
     exact Blk.ne_ hy hn (by decide) rfl
   . exact Blk.ne_ hy ht.tx (by decide) e
   . exact Blk.ne_ hy h.db (by decide) e
   . exact h.rd.ne_blk hy e.symm
end Go.Proofs.YtemondlgcmpbbaaGreatDoor
namespace Go.Proofs.YtemondlgcmpbbaaGreatDoor
open Go.RowKit
set_option maxRecDepth 100000
theorem LQ1.flip {rd rd' : Nat -> List UInt8} {n G h : Nat} {t : Tr h} (hq : LQ1 rd n G h t) {k j : Nat} {y : UInt8} (hl : ∀ i, i < n -> (rd i).length = 128) (hj : j < 128) (hy : ∀ h : j < (rd k).length, y ≠ (rd k)[j]) (ho : ∀ i, i < n -> i ≠ k -> rd' i = rd i) (hk : rd' k = (rd k).set j y) : LQ rd' n G h t := by
 obtain ⟨q1, q2, q3, q4, q5, q6⟩ := hq
 refine ⟨q1, q2, q3, q4, q5, ?_⟩
 by_cases e : Tr.blk h t = k
 . right
   have hlk := hl _ q1.2
   rw [e] at hlk ⊢
   rw [hk]
   refine sealedN_set (rd k) j y (by omega) (by omega) (hy _) ?_
   rw [<- e, q6]
   exact nby_sealed h t
 . left
   rw [ho _ q1.2 e]
   exact q6
theorem LQ.one {rd : Nat -> List UInt8} {n G h : Nat} {t : Tr h} (hq : LQ rd n G h t) (hs : sealedN (rd (Tr.blk h t)) = true) : LQ1 rd n G h t := by
 obtain ⟨q1, q2, q3, q4, q5, q6⟩ := hq
 rcases q6 with q | q
 . exact ⟨q1, q2, q3, q4, q5, q⟩
 . rw [hs] at q; cases q
theorem good_one {rd : Nat -> List UInt8} {n G : Nat} : ∀ {h : Nat} {t : Tr h}, NS (LQ rd n G) h t -> good rd h t = true -> NS (LQ1 rd n G) h t
 | 0, t, hq, hg => LQ.one hq hg
 | h + 1, t, hq, hg => by
   have hg' : (sealedN (rd (Nd.blk t)) && (Nd.es t).all fun e => good rd h e.2) = true := hg
   rw [Bool.and_eq_true, List.all_eq_true] at hg'
   exact ⟨LQ.one hq.1 hg'.1, fun e he => good_one (hq.2 e he) (hg'.2 e he)⟩
theorem dinv_flip {rd rd' : Nat -> List UInt8} {n : Nat} {h1 h2 : Hd} {T1 T2 : Tree} (hD1 : DInv rd n h1 T1) (hh : headsN rd = [h1, h2]) (hn : 2 <= n)
   (hr2 : (T2.root = none /\ h2.blk = 0) \/ ∃ h t, T2.root = some ⟨h, t⟩ /\ Tr.blk h t = h2.blk /\ Tr.gen h t = h2.rgen /\ 0 < h2.blk) (hon2 : TN (LQ1 rd n h2.gen) T2) (hnd2 : T2.blks.Nodup)
   {k j : Nat} {y : UInt8} (hl : ∀ i, i < n -> (rd i).length = 128) (_hkn : k < n) (hj : j < 128) (hy : ∀ h : j < (rd k).length, y ≠ (rd k)[j]) (ho : ∀ i, i < n -> i ≠ k -> rd' i = rd i) (hk : rd' k = (rd k).set j y) :
   DInv rd' n h1 T1 \/ DInv rd' n h2 T2 \/ (headsN rd' = [h1, h2] /\ TN (LQ rd' n h1.gen) T1 /\ TN (LQ rd' n h2.gen) T2) := by
 by_cases k2 : k < 2
 . have hsame : ∀ i, 2 <= i -> i < n -> rd' i = rd i := fun i h2 hi => ho i hi (by omega)
   have m1 : TN (LQ1 rd' n h1.gen) T1 := fun h t hr => (hD1.on h t hr).mono (R := LQ1 rd' n h1.gen) fun _ _ hq => hq.next (Nat.le_refl _) (hsame _ hq.1.1 hq.1.2)
   have m2 : TN (LQ1 rd' n h2.gen) T2 := fun h t hr => (hon2 h t hr).mono (R := LQ1 rd' n h2.gen) fun _ _ hq => hq.next (Nat.le_refl _) (hsame _ hq.1.1 hq.1.2)
   rcases heads_flip hh k2 (fun i hi => hl i (by omega)) hy (fun i hi hne => ho i (by omega) hne) hk with e | e | e
   . exact .inl ⟨⟨_, e⟩, hD1.root, m1, hD1.nd⟩
   . exact .inl ⟨⟨_, e⟩, hD1.root, m1, hD1.nd⟩
   . exact .inr (.inl ⟨⟨_, e⟩, hr2, m2, hnd2⟩)
 . refine .inr (.inr ⟨?_, fun h t hr => (hD1.on h t hr).mono (R := LQ rd' n h1.gen) fun _ _ hq => hq.flip hl hj hy ho hk, fun h t hr => (hon2 h t hr).mono (R := LQ rd' n h2.gen) fun _ _ hq => hq.flip hl hj hy ho hk⟩)
   rw [<- hh]
   unfold headsN headUp headUp headUp
   rw [ho 0 (by omega) (by omega), ho 1 (by omega) (by omega)]
end Go.Proofs.YtemondlgcmpbbaaGreatDoor
