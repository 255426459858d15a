/- Walks: disk.put32, disk.get32, Seal, Sealed. -/
import Derived.Test.YtemondlgcmpbbaaGreatDoorCr
namespace Go.Proofs.YtemondlgcmpbbaaGreatDoor
open Go.RowKit

set_option maxRecDepth 100000 in
theorem dput32_any (g o n c : Nat) (cur : List Value) (x : Nat) (w : World) (hb : Blk w g 5 cur.toArray) (h1 : o + 4 ≤ cur.length) (h2 : 4 ≤ n) (hn : n ≤ 1000) (hx : x < 4294967296) :
    Calls Tryz.prog 136 #[.slice (some ⟨g, o, none⟩) n c, .int .u32 x] w fun e w' => e = .returned (.tuple #[]) ∧ Blk w' g 5 (spl cur o (bc (le4 x))).toArray ∧ Only (· = g) w w' := by
  have cell : ∀ j, j < 4 → ∃ v, w.cell? ⟨g, o + j, none⟩ = some v := fun j hj => ⟨cur[o + j]'(by omega), by rw [hb.cell]; simp⟩
  obtain ⟨v0, c0⟩ := cell 0 (by omega)
  obtain ⟨v1, c1⟩ := cell 1 (by omega)
  obtain ⟨v2, c2⟩ := cell 2 (by omega)
  obtain ⟨v3, c3⟩ := cell 3 (by omega)
  rw [Nat.add_zero] at c0
  have f : ∀ i, w.frozen? ⟨g, i, none⟩ = false := fun i => hb.frozen i
  have H := hide hb
  have HE := hide (bc_le4 x hx)
  have HS := hide h1
  clear hb cell h1
  have h0 : (0 : Int) < n := by omega
  have h01 : (1 : Int) < n := by omega
  have h02 : (2 : Int) < n := by omega
  have h03 : (3 : Int) < n := by omega
  go_enter Tryz.func136, Tryz.ntmps136
  go_wp2
  refine wp_loop_rounds 5 ?_
  iterate 5 (rw [rounds_succ]; go_wp2)
  go_end0
  refine ⟨rfl, ?_, ?_⟩
  · rw [HE.out, ← spl4 HS.out]
    exact (((H.out.set_ o _).set_ (o + 1) _).set_ (o + 2) _).set_ (o + 3) _
  · exact (((Only.set1 w g o _).set2 (o + 1) _).set2 (o + 2) _).set2 (o + 3) _

theorem or4' (a b c d : Nat) (ha : a < 256) (hb : b < 256) (hc : c < 256) (hd : d < 256) :
    bits .or .u32 (bits .or .u32 (bits .or .u32 (bits .or .u32 0 ((a : Int) % 4294967296)) ((b : Int) % 4294967296 * 256 % 4294967296)) ((c : Int) % 4294967296 * 65536 % 4294967296)) ((d : Int) % 4294967296 * 16777216 % 4294967296) = ((a + b * 256 + c * 65536 + d * 16777216 : Nat) : Int) := by
  have h : bits .or .u32 0 ((a : Int) % 4294967296) = (a : Int) % 4294967296 := by
    rw [show (a : Int) % 4294967296 = (a : Nat) by omega]
    have := u32_or_nat 0 a (by omega) (by omega)
    simpa using this
  rw [h, or4 a b c d ha hb hc hd]
set_option maxRecDepth 100000 in
theorem dget32_any (A : Option Addr) (n c : Nat) (bytes : List UInt8) (w : World) (h : SlU w A n c bytes) (h4 : 4 ≤ n) (hn : n ≤ 1000) :
    Calls Tryz.prog 193 #[.slice A n c] w fun e w' => e = .returned (.int .u32 (get4 bytes : Nat)) ∧ w = w' := by
  obtain ⟨g, o, v0, v1, v2, v3, r, rfl, rfl, c0, c1, c2, c3⟩ := h.four h4
  clear h
  have HE := hide (or4' v0.toNat v1.toNat v2.toNat v3.toNat v0.toNat_lt v1.toNat_lt v2.toNat_lt v3.toNat_lt)
  have h0 : (0 : Int) < n := by omega
  have h01 : (1 : Int) < n := by omega
  have h02 : (2 : Int) < n := by omega
  have h03 : (3 : Int) < n := by omega
  go_enter Tryz.func193, Tryz.ntmps193
  go_wp2
  refine wp_loop_rounds 5 ?_
  iterate 5 (rw [rounds_succ]; go_wp2)
  go_ret
  exact ⟨congrArg (fun z => Ending.returned (Value.int .u32 z)) HE.out, rfl⟩

theorem SlU.tail {w : World} {A : Option Addr} {n c : Nat} {bytes : List UInt8} (h : SlU w A n c bytes) (k : Nat) (hk : k ≤ n) (hc : k < c) : SlU w (A.map (·.add k)) (n - k) (c - k) (bytes.drop k) := by
  obtain ⟨h1, h2, h3, h4⟩ := h
  refine ⟨by rw [List.length_drop, h1], by omega, by omega, fun h0 => ?_⟩
  obtain ⟨g, o, cur, rfl, hg, hx⟩ := h4 (by omega)
  refine ⟨g, o + k, cur, ?_, hg, fun j u hu => ?_⟩
  · simp only [Option.map_some, Option.some.injEq]
    unfold Addr.add
    split <;> simp_all
  · rw [bc_drop, List.getElem?_drop] at hu
    have := hx _ u hu
    rwa [show o + k + j = o + (k + j) by omega]

theorem SlU.some_ {w : World} {A : Option Addr} {n c : Nat} {bytes : List UInt8} (h : SlU w A n c bytes) (hn : 0 < n) : ∃ g o cur, A = some ⟨g, o, none⟩ ∧ Blk w g 5 cur := by
  obtain ⟨g, o, cur, hA, hg, _⟩ := h.2.2.2 hn
  exact ⟨g, o, cur, hA, hg⟩

theorem quiet_same {P : Program} {f : FuncId} {args : Array Value} {w : World} {n : Nat} {v : Value} (h : Calls P f args (w.drewN n) fun e w' => e = .returned v ∧ w.drewN n = w') : Calls P f args (w.drewN n) fun e w'' => e = .returned v ∧ ∃ m, w'' = w.drewN m :=
  h.mono fun _ _ ⟨he, hm⟩ => ⟨he, n, hm.symm⟩
theorem quiet_ret {P : Program} {f : FuncId} {args : Array Value} {w : World} {n : Nat} {v : Value} (h : Calls P f args (w.drewN n) fun e w' => RetD v (w.drewN n) e w') : Calls P f args (w.drewN n) fun e w'' => e = .returned v ∧ ∃ m, w'' = w.drewN m :=
  Calls.quiet_of h

theorem rBool2 {a b : Bool} (h : a = b) : Ending.returned (.bool a) = Ending.returned (.bool b) := by rw [h]
/-- Does the sum agree? -/
def sealedN (bytes : List UInt8) : Bool := get4 bytes == crcN (bytes.drop 4)

set_option maxRecDepth 100000 in
theorem sealed_any (A : Option Addr) (n c : Nat) (bytes : List UInt8) (w : World) (h : SlU w A n c bytes) (h4 : 4 < n) (hn : n ≤ 1000) :
    Calls Tryz.prog 194 #[.slice A n c] w fun e w' => RetD (.bool (sealedN bytes)) w e w' := by
  obtain ⟨g, o, cur, rfl, hg⟩ := h.some_ (by omega)
  have hnc := h.2.1
  have HG := hide (fun k => get32_any (some ⟨g, o, none⟩) n c bytes (w.drewN k) ((h.below (below_drewN (Below.refl _ _) k))) (by omega) hn)
  have ht := h.tail 4 (by omega) (by omega)
  have hA : (some (⟨g, o, none⟩ : Addr)).map (·.add 4) = some ⟨g, o + 4, none⟩ := rfl
  rw [hA] at ht
  have HT := hide (fun k => crc_any (some ⟨g, o + 4, none⟩) (n - 4) (c - 4) (bytes.drop 4) (w.drewN k) (ht.below (below_drewN (Below.refl _ _) k)) (by omega))
  clear hg h ht hA
  have q1 : ¬ (c : Int) = 4 := by omega
  have q2 : (4 : Int) ≤ n := by omega
  have q3 : (n : Int) ≤ c := by omega
  have q4 : ¬ c = 4 := by omega
  go_enter Tryz.func194, Tryz.ntmps194
  go_wp2
  go_quiet (first | ((go_at_call 195; exact quiet_ret (HG.out _))) | ((go_at_call 170; exact quiet_same (HT.out _))))
  go_wp2
  go_ret
  refine ⟨rBool2 ?_, _, rfl⟩
  unfold sealedN
  rw [Bool.eq_iff_iff, beq_iff_eq, beq_iff_eq]
  exact Int.ofNat_inj

theorem SlU.whole {w : World} {g : Nat} {bytes : List UInt8} {n : Nat} (hb : Blk w g 5 (bc bytes).toArray) (hn : bytes.length = n) (hn2 : n ≤ 1000) : SlU w (some ⟨g, 0, none⟩) n n bytes :=
  ⟨hn, Nat.le_refl _, by unfold maxLen; omega, fun _ => ⟨g, 0, _, rfl, hb, fun j u hu => by simpa using hu⟩⟩

/-- The sum ahead of what stands behind it. -/
def sealN (bytes : List UInt8) : List UInt8 := le4 (crcN (bytes.drop 4)) ++ bytes.drop 4
theorem sealN_sealed (bytes : List UInt8) : sealedN (sealN bytes) = true := by
  unfold sealedN sealN
  rw [get4_le4 _ (crcN_lt _), List.drop_left' (le4_length _)]
  exact beq_self_eq_true _

set_option maxRecDepth 100000 in
theorem seal_any (g n : Nat) (bytes : List UInt8) (w : World) (hb : Blk w g 5 (bc bytes).toArray) (hl : bytes.length = n) (h4 : 4 < n) (hn : n ≤ 1000) :
    Calls Tryz.prog 135 #[.slice (some ⟨g, 0, none⟩) n n] w fun e w' => e = .returned (.tuple #[]) ∧ Blk w' g 5 (bc (sealN bytes)).toArray ∧ Only (· = g) w w' := by
  have ht := (SlU.whole hb hl hn).tail 4 (by omega) (by omega)
  have hA : (some (⟨g, 0, none⟩ : Addr)).map (·.add 4) = some ⟨g, 4, none⟩ := rfl
  rw [hA] at ht
  have HT := hide (crc_any (some ⟨g, 4, none⟩) (n - 4) (n - 4) (bytes.drop 4) w ht (by omega))
  have HP := hide (put32_any g 0 n n (bc bytes) (crcN (bytes.drop 4)) w hb (by rw [bc_length, hl]; omega) (by omega) hn (crcN_lt _))
  have HE : Hid (spl (bc bytes) 0 (bc (le4 (crcN (bytes.drop 4)))) = bc (sealN bytes)) := by
    unfold spl sealN
    rw [bc_app, bc_drop, List.take_zero, List.nil_append, bc_length, le4_length, Nat.zero_add]
    exact rfl
  clear ht hA hb hl
  have q1 : ¬ (n : Int) = 4 := by omega
  have q2 : (4 : Int) ≤ n := by omega
  have q4 : ¬ n = 4 := by omega
  go_enter Tryz.func135, Tryz.ntmps135
  go_wp2_with (first
    | (go_at_call 170; refine HT.out.mono ?_; rintro e w' ⟨rfl, rfl⟩)
    | (go_at_call 134; refine HP.out.mono ?_; rintro e w1 ⟨rfl, hb1, ho1⟩))
  go_end0
  rw [HE.out] at hb1
  exact ⟨rfl, hb1, ho1⟩
end Go.Proofs.YtemondlgcmpbbaaGreatDoor
