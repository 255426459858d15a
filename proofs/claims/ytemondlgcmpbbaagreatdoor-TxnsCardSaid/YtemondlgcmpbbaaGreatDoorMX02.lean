/- Cr Cs Ha Mt: merged. -/
import Derived.Test.YtemondlgcmpbbaaGreatDoorMX01
import Derived.Laws.BitsAllLaws
namespace Go.Proofs.YtemondlgcmpbbaaGreatDoor
open Go.RowKit
set_option maxRecDepth 100000
def le4 (n : Nat) : List UInt8 := [UInt8.ofNat (n % 256), UInt8.ofNat (n / 256 % 256), UInt8.ofNat (n / 65536 % 256), UInt8.ofNat (n / 16777216 % 256)]
def get4 : List UInt8 -> Nat
 | a :: b :: c :: d :: _ => a.toNat + b.toNat * 256 + c.toNat * 65536 + d.toNat * 16777216
 | _ => 0
theorem zcc (m : Nat) (h : m < 256) : (UInt8.ofNat m).toNat = m := by simp; omega
theorem zfd (n : Nat) (h : n < 4294967296) (r : List UInt8) : get4 (le4 n ++ r) = n := by
 simp only [le4, get4, List.cons_append, List.nil_append]
 rw [zcc _ (by omega), zcc _ (by omega), zcc _ (by omega), zcc _ (by omega)]
 omega
theorem zix (n : Nat) : (le4 n).length = 4 := rfl
theorem zp7 (n : Nat) (h : n < 4294967296) : bc (le4 n) = [.int .u8 ((n : Int) % 256), .int .u8 ((n : Int) / 256 % 256), .int .u8 ((n : Int) / 65536 % 256), .int .u8 ((n : Int) / 16777216)] := by
 simp only [bc, le4, List.map_cons, List.map_nil]
 rw [zcc _ (by omega), zcc _ (by omega), zcc _ (by omega), zcc _ (by omega)]
 have : n / 16777216 % 256 = n / 16777216 := by omega
 rw [this]
 simp
theorem ztq : ∀ (l : List UInt8), get4 l < 4294967296
 | [] => by simp [get4]
 | [_] => by simp [get4]
 | [_, _] => by simp [get4]
 | [_, _, _] => by simp [get4]
 | a :: b :: c :: d :: _ => by
   have h1 := a.toNat_lt; have h2 := b.toNat_lt; have h3 := c.toNat_lt; have h4 := d.toNat_lt
   simp only [get4]; omega
theorem zju (x y i : Nat) (hy : y < 2 ^ i) (hx : x * 2 ^ i < 4294967296) (hy2 : y < 4294967296) : bits .or .u32 (y : Int) ((x * 2 ^ i : Nat) : Int) = ((y + x * 2 ^ i : Nat) : Int) := by
 rw [u32_or_nat _ _ hy2 hx, Nat.or_comm, Nat.mul_comm, <- Nat.two_pow_add_eq_or_of_lt hy x, Nat.add_comm]
theorem or4 (a b c d : Nat) (ha : a < 256) (hb : b < 256) (hc : c < 256) (hd : d < 256) :
   bits .or .u32 (bits .or .u32 (bits .or .u32 ((a : Int) % 4294967296) ((b : Int) % 4294967296 * 256 % 4294967296)) ((c : Int) % 4294967296 * 65536 % 4294967296)) ((d : Int) % 4294967296 * 16777216 % 4294967296) = ((a + b * 256 + c * 65536 + d * 16777216 : Nat) : Int) := by
 have h1 : (a : Int) % 4294967296 = (a : Nat) := by omega
 have h2 : (b : Int) % 4294967296 * 256 % 4294967296 = ((b * 2 ^ 8 : Nat) : Int) := by omega
 have h3 : (c : Int) % 4294967296 * 65536 % 4294967296 = ((c * 2 ^ 16 : Nat) : Int) := by omega
 have h4 : (d : Int) % 4294967296 * 16777216 % 4294967296 = ((d * 2 ^ 24 : Nat) : Int) := by omega
 rw [h1, h2, h3, h4, zju b a 8 (by omega) (by omega) (by omega), zju c _ 16 (by omega) (by omega) (by omega), zju d _ 24 (by omega) (by omega) (by omega)]
def crcBit (c : Nat) : Nat := (c / 2) ^^^ (if c % 2 = 1 then 2197175160 else 0)
def zie (f : Nat -> Nat) : Nat -> Nat -> Nat
 | 0, c => c
 | k + 1, c => f (zie f k c)
def zd6 (c : Nat) (x : UInt8) : Nat := zie crcBit 8 (c ^^^ x.toNat)
def crcN (l : List UInt8) : Nat := 4294967295 ^^^ l.foldl zd6 4294967295
theorem zg4 {a b : Nat} (ha : a < 4294967296) (hb : b < 4294967296) : a ^^^ b < 4294967296 := Nat.xor_lt_two_pow (n := 32) ha hb
theorem zp8 {c : Nat} (h : c < 4294967296) : crcBit c < 4294967296 := by
 unfold crcBit
 split
 . exact zg4 (by omega) (by omega)
 . exact zg4 (by omega) (by omega)
theorem zhn {c : Nat} (h : c < 4294967296) : ∀ k, zie crcBit k c < 4294967296
 | 0 => h
 | k + 1 => zp8 (zhn h k)
theorem zon {c : Nat} (h : c < 4294967296) (x : UInt8) : zd6 c x < 4294967296 := zhn (zg4 h (by have := x.toNat_lt; omega)) 8
theorem zex : ∀ (l : List UInt8) {c : Nat}, c < 4294967296 -> l.foldl zd6 c < 4294967296
 | [], _, h => h
 | x :: l, _, h => zex l (zon h x)
theorem zn0 (l : List UInt8) : crcN l < 4294967296 := zg4 (by omega) (zex l (by omega))
theorem zrw (c : Nat) (h : c < 4294967296) : bits .xor .u32 ((c : Int) / 2) (bits .and .u32 (-bits .and .u32 (c : Int) 1 % 4294967296) 2197175160) = ((crcBit c : Nat) : Int) := by
 have h1 : bits .and .u32 (c : Int) 1 = ((c &&& 1 : Nat) : Int) := u32_and_nat c 1 h (by omega)
 rw [h1, Nat.and_one_is_mod]
 have h2 : (c : Int) / 2 = ((c / 2 : Nat) : Int) := by omega
 rw [h2]
 unfold crcBit
 rcases Nat.mod_two_eq_zero_or_one c with h0 | h0
 . rw [h0, if_neg (by omega)]
   have h3 : -((0 : Nat) : Int) % 4294967296 = ((0 : Nat) : Int) := by decide
   rw [h3]
   have h4 : bits .and .u32 ((0 : Nat) : Int) 2197175160 = ((0 : Nat) : Int) := by decide
   rw [h4]
   exact u32_xor_nat _ _ (by omega) (by omega)
 . rw [h0, if_pos rfl]
   have h3 : -((1 : Nat) : Int) % 4294967296 = ((4294967295 : Nat) : Int) := by decide
   rw [h3]
   have h4 : bits .and .u32 ((4294967295 : Nat) : Int) 2197175160 = ((2197175160 : Nat) : Int) := by decide
   rw [h4]
   exact u32_xor_nat _ _ (by omega) (by omega)
theorem zux {cur : List Value} {o : Nat} {a b c d : Value} (h : o + 4 <= cur.length) : (((cur.toArray.setIfInBounds o a).setIfInBounds (o + 1) b).setIfInBounds (o + 2) c).setIfInBounds (o + 3) d = (spl cur o [a, b, c, d]).toArray := by
 apply Array.ext'
 simp only [List.setIfInBounds_toArray]
 apply List.ext_getElem?
 intro i
 unfold spl
 simp only [List.getElem?_set, List.length_set, List.length_cons, List.length_nil]
 by_cases h1 : i < o
 . rw [List.append_assoc, List.getElem?_append_left (by rw [List.length_take]; omega), List.getElem?_take]
   rw [if_neg (by omega), if_neg (by omega), if_neg (by omega), if_neg (by omega), if_pos h1]
 . by_cases h2 : i < o + 4
   . rw [List.append_assoc, List.getElem?_append_right (by rw [List.length_take]; omega), List.length_take, Nat.min_eq_left (by omega), List.getElem?_append_left (by show _ < 4; omega)]
     obtain ⟨j, rfl⟩ : ∃ j, i = o + j := ⟨i - o, by omega⟩
     have : j < 4 := by omega
     match j, this with
     | 0, _ => simp; omega
     | 1, _ => simp; omega
     | 2, _ => simp; omega
     | 3, _ => simp; omega
   . rw [if_neg (by omega), if_neg (by omega), if_neg (by omega), if_neg (by omega), List.getElem?_append_right (by simp only [List.length_append, List.length_take, List.length_cons, List.length_nil]; omega), List.getElem?_drop]
     congr 1
     simp only [List.length_append, List.length_take, List.length_cons, List.length_nil]; omega
theorem zp9 (g o n c : Nat) (cur : List Value) (x : Nat) (w : World) (hb : Blk w g 5 cur.toArray) (h1 : o + 4 <= cur.length) (h2 : 4 <= n) (hn : n <= 1000) (hx : x < 4294967296) :
   Calls Tryz.prog 134 #[.slice (some ⟨g, o, none⟩) n c, .int .u32 x] w fun e w' => e = .returned (.tuple #[]) /\ Blk w' g 5 (spl cur o (bc (le4 x))).toArray /\ Only (· = g) w w' := by
 have cell : ∀ j, j < 4 -> ∃ v, w.cell? ⟨g, o + j, none⟩ = some v := fun j hj => ⟨cur[o + j]'(by omega), by rw [hb.cell]; simp⟩
 obtain ⟨v0, c0⟩ := cell 0 (by omega)
 obtain ⟨v1, c1⟩ := cell 1 (by omega)
 obtain ⟨v2, c2⟩ := cell 2 (by omega)
 obtain ⟨v3, c3⟩ := cell 3 (by omega)
 rw [Nat.add_zero] at c0
 have f : ∀ i, w.frozen? ⟨g, i, none⟩ = false := fun i => hb.frozen i
 have H := zaa hb
 have HE := zaa (zp7 x hx)
 have HS := zaa h1
 clear hb cell h1
 have h0 : (0 : Int) < n := by omega
 have h01 : (1 : Int) < n := by omega
 have h02 : (2 : Int) < n := by omega
 have h03 : (3 : Int) < n := by omega
 go_enter Tryz.func134, Tryz.ntmps134
 go_wp2
 go_end0
 refine ⟨rfl, ?_, ?_⟩
 . rw [HE.out, <- zux HS.out]
   exact (((H.out.set_ o _).set_ (o + 1) _).set_ (o + 2) _).set_ (o + 3) _
 . exact (((Only.set1 w g o _).set2 (o + 1) _).set2 (o + 2) _).set2 (o + 3) _
theorem SlU.four {w : World} {A : Option Addr} {n c : Nat} {bytes : List UInt8} (h : SlU w A n c bytes) (hn : 4 <= n) : ∃ g o v0 v1 v2 v3 r, A = some ⟨g, o, none⟩ /\ bytes = v0 :: v1 :: v2 :: v3 :: r /\ w.cell? ⟨g, o, none⟩ = some (.int .u8 v0.toNat) /\ w.cell? ⟨g, o + 1, none⟩ = some (.int .u8 v1.toNat) /\ w.cell? ⟨g, o + 2, none⟩ = some (.int .u8 v2.toNat) /\ w.cell? ⟨g, o + 3, none⟩ = some (.int .u8 v3.toNat) := by
 obtain ⟨g, o, cur, hA, hg, hc⟩ := h.2.2.2 (by omega)
 have hl := h.1
 match bytes, hl with
 | [], hl => simp at hl; omega
 | [_], hl => simp at hl; omega
 | [_, _], hl => simp at hl; omega
 | [_, _, _], hl => simp at hl; omega
 | v0 :: v1 :: v2 :: v3 :: r, _ =>
   exact ⟨g, o, v0, v1, v2, v3, r, hA, rfl, by rw [hg.cell]; exact hc 0 _ rfl, by rw [hg.cell]; exact hc 1 _ rfl, by rw [hg.cell]; exact hc 2 _ rfl, by rw [hg.cell]; exact hc 3 _ rfl⟩
def zrx (v : Value) (w : World) (e : Ending) (w' : World) : Prop := e = .returned v /\ ∃ k, w' = w.drewN k
theorem zqa (A : Option Addr) (n c : Nat) (bytes : List UInt8) (w : World) (h : SlU w A n c bytes) (h4 : 4 <= n) (hn : n <= 1000) :
   Calls Tryz.prog 195 #[.slice A n c] w fun e w' => zrx (.int .u32 (get4 bytes : Nat)) w e w' := by
 obtain ⟨g, o, v0, v1, v2, v3, r, rfl, rfl, c0, c1, c2, c3⟩ := h.four h4
 clear h
 have HE := zaa (or4 v0.toNat v1.toNat v2.toNat v3.toNat v0.toNat_lt v1.toNat_lt v2.toNat_lt v3.toNat_lt)
 have h0 : (0 : Int) < n := by omega
 have h01 : (1 : Int) < n := by omega
 have h02 : (2 : Int) < n := by omega
 have h03 : (3 : Int) < n := by omega
 go_enter Tryz.func195, Tryz.ntmps195
 go_wp2
 go_quiet (fail)
 all_goals (go_wp2; go_ret; exact ⟨congrArg (fun z => Ending.returned (Value.int .u32 z)) HE.out, _, rfl⟩)
theorem zn1 (A : Option Addr) (n c : Nat) (bytes : List UInt8) (w : World) (h : SlU w A n c bytes) (hn : n <= 1000) :
   Calls Tryz.prog 170 #[.slice A n c] w fun e w' => e = .returned (.int .u32 (crcN bytes : Nat)) /\ w = w' := by
 have H := zaa h
 have HL := zaa h.1
 clear h
 go_enter Tryz.func170, Tryz.ntmps170
 go_wp2
 go_loop [3, 8] (fun s i => ∃ k : Nat, k <= n /\ i = .int .i64 k /\ s = .int .u32 ((bytes.take k).foldl zd6 4294967295 : Nat)) (fun _ i => n - (intOf i).toNat)
 case atStart => exact ⟨0, Nat.zero_le _, rfl, rfl⟩
 case round =>
  obtain ⟨k, hk, rfl, rfl⟩ := hrel
  by_cases hlt : k < n
  . obtain ⟨g, o, rfl, x, hx, hc⟩ := H.out.at_ hlt
    obtain ⟨s0, hs0⟩ : ∃ s0, s0 = (bytes.take k).foldl zd6 4294967295 := ⟨_, rfl⟩
    rw [<- hs0]
    have hs : s0 < 4294967296 := by rw [hs0]; exact zex _ (by omega)
    have hfin : (bytes.take (k + 1)).foldl zd6 4294967295 = zie crcBit 8 (s0 ^^^ x.toNat) := by
     have hkl : k < bytes.length := by rw [HL.out]; exact hlt
     have : bytes[k] = x := by rw [List.getElem?_eq_getElem hkl] at hx; injection hx
     rw [List.take_succ_eq_append_getElem hkl, List.foldl_append, <- hs0, this]
     rfl
    have hx0 : bits .xor .u32 (s0 : Int) ((x.toNat : Int) % 4294967296) = ((s0 ^^^ x.toNat : Nat) : Int) := by
     have := x.toNat_lt
     rw [show ((x.toNat : Int) % 4294967296) = ((x.toNat : Nat) : Int) by omega]
     exact u32_xor_nat _ _ hs (by omega)
    have hsx : s0 ^^^ x.toNat < 4294967296 := zg4 hs (by have := x.toNat_lt; omega)
    have HF := zaa hfin
    have HX := zaa hx0
    have HSX := zaa hsx
    clear hfin hx0 hsx hs0 hs hx
    go_wp2
    go_loop [3, 16] (fun s j => ∃ i : Nat, i <= 8 /\ j = .int .i64 i /\ s = .int .u32 (zie crcBit i (s0 ^^^ x.toNat) : Nat)) (fun _ j => 8 - (intOf j).toNat)
    case atStart => exact ⟨0, Nat.zero_le _, rfl, by rw [HX.out]; rfl⟩
    case round =>
     obtain ⟨i, hi, rfl, rfl⟩ := hrel
     by_cases hlt2 : i < 8
     . have hb := zrw (zie crcBit i (s0 ^^^ x.toNat)) (zhn HSX.out i)
       obtain ⟨s1, hs1⟩ : ∃ s1, s1 = zie crcBit i (s0 ^^^ x.toNat) := ⟨_, rfl⟩
       have hs2 : s1 < 4294967296 := by rw [hs1]; exact zhn HSX.out i
       rw [<- hs1] at hb ⊢
       have HB := zaa hb
       have HS1 := zaa hs1
       clear hb hs1
       go_wp2
       go_round
       case rel => exact ⟨i + 1, by omega, by go_num, by rw [HB.out, HS1.out]; rfl⟩
       case measure => simp [intOf]; omega
     . obtain rfl : i = 8 := by omega
       go_wp2
       go_round
       case rel => exact ⟨k + 1, by omega, by go_num, by rw [HF.out]⟩
       case measure => simp [intOf]; omega
  . obtain ⟨s0, hs0⟩ : ∃ s0, s0 = (bytes.take k).foldl zd6 4294967295 := ⟨_, rfl⟩
    rw [<- hs0]
    have hs : s0 < 4294967296 := by rw [hs0]; exact zex _ (by omega)
    have hkn : k = n := by omega
    have hfin : bits .xor .u32 IntKind.u32.max (s0 : Int) = ((crcN bytes : Nat) : Int) := by
     rw [hkn, <- HL.out, List.take_length] at hs0
     unfold crcN
     rw [<- hs0]
     exact u32_xor_nat 4294967295 s0 (by omega) hs
    have HF := zaa hfin
    have HK := zaa hkn
    clear hfin hs0 hkn
    go_wp2
    go_ret
    exact ⟨by rw [<- HF.out]; rfl, rfl⟩
theorem zoo (g o n c : Nat) (cur : List Value) (x : Nat) (w : World) (hb : Blk w g 5 cur.toArray) (h1 : o + 4 <= cur.length) (h2 : 4 <= n) (hn : n <= 1000) (hx : x < 4294967296) :
   Calls Tryz.prog 136 #[.slice (some ⟨g, o, none⟩) n c, .int .u32 x] w fun e w' => e = .returned (.tuple #[]) /\ Blk w' g 5 (spl cur o (bc (le4 x))).toArray /\ Only (· = g) w w' := by
 have cell : ∀ j, j < 4 -> ∃ v, w.cell? ⟨g, o + j, none⟩ = some v := fun j hj => ⟨cur[o + j]'(by omega), by rw [hb.cell]; simp⟩
 obtain ⟨v0, c0⟩ := cell 0 (by omega)
 obtain ⟨v1, c1⟩ := cell 1 (by omega)
 obtain ⟨v2, c2⟩ := cell 2 (by omega)
 obtain ⟨v3, c3⟩ := cell 3 (by omega)
 rw [Nat.add_zero] at c0
 have f : ∀ i, w.frozen? ⟨g, i, none⟩ = false := fun i => hb.frozen i
 have H := zaa hb
 have HE := zaa (zp7 x hx)
 have HS := zaa h1
 clear hb cell h1
 have h0 : (0 : Int) < n := by omega
 have h01 : (1 : Int) < n := by omega
 have h02 : (2 : Int) < n := by omega
 have h03 : (3 : Int) < n := by omega
 go_enter Tryz.func136, Tryz.ntmps136
 go_wp2
 refine wp_loop_rounds 5 ?_
 iterate 5 (rw [rounds_succ]; go_wp2)
 go_end0
 refine ⟨rfl, ?_, ?_⟩
 . rw [HE.out, <- zux HS.out]
   exact (((H.out.set_ o _).set_ (o + 1) _).set_ (o + 2) _).set_ (o + 3) _
 . exact (((Only.set1 w g o _).set2 (o + 1) _).set2 (o + 2) _).set2 (o + 3) _
theorem zvu (a b c d : Nat) (ha : a < 256) (hb : b < 256) (hc : c < 256) (hd : d < 256) :
   bits .or .u32 (bits .or .u32 (bits .or .u32 (bits .or .u32 0 ((a : Int) % 4294967296)) ((b : Int) % 4294967296 * 256 % 4294967296)) ((c : Int) % 4294967296 * 65536 % 4294967296)) ((d : Int) % 4294967296 * 16777216 % 4294967296) = ((a + b * 256 + c * 65536 + d * 16777216 : Nat) : Int) := by
 have h : bits .or .u32 0 ((a : Int) % 4294967296) = (a : Int) % 4294967296 := by
  rw [show (a : Int) % 4294967296 = (a : Nat) by omega]
  have := u32_or_nat 0 a (by omega) (by omega)
  simpa using this
 rw [h, or4 a b c d ha hb hc hd]
theorem zey (A : Option Addr) (n c : Nat) (bytes : List UInt8) (w : World) (h : SlU w A n c bytes) (h4 : 4 <= n) (hn : n <= 1000) :
   Calls Tryz.prog 193 #[.slice A n c] w fun e w' => e = .returned (.int .u32 (get4 bytes : Nat)) /\ w = w' := by
 obtain ⟨g, o, v0, v1, v2, v3, r, rfl, rfl, c0, c1, c2, c3⟩ := h.four h4
 clear h
 have HE := zaa (zvu v0.toNat v1.toNat v2.toNat v3.toNat v0.toNat_lt v1.toNat_lt v2.toNat_lt v3.toNat_lt)
 have h0 : (0 : Int) < n := by omega
 have h01 : (1 : Int) < n := by omega
 have h02 : (2 : Int) < n := by omega
 have h03 : (3 : Int) < n := by omega
 go_enter Tryz.func193, Tryz.ntmps193
 go_wp2
 refine wp_loop_rounds 5 ?_
 iterate 5 (rw [rounds_succ]; go_wp2)
 go_ret
 exact ⟨congrArg (fun z => Ending.returned (Value.int .u32 z)) HE.out, rfl⟩
theorem SlU.tail {w : World} {A : Option Addr} {n c : Nat} {bytes : List UInt8} (h : SlU w A n c bytes) (k : Nat) (hk : k <= n) (hc : k < c) : SlU w (A.map (·.add k)) (n - k) (c - k) (bytes.drop k) := by
 obtain ⟨h1, h2, h3, h4⟩ := h
 refine ⟨by rw [List.length_drop, h1], by omega, by omega, fun h0 => ?_⟩
 obtain ⟨g, o, cur, rfl, hg, hx⟩ := h4 (by omega)
 refine ⟨g, o + k, cur, ?_, hg, fun j u hu => ?_⟩
 . simp only [Option.map_some, Option.some.injEq]
   unfold Addr.add
   split <;> simp_all
 . rw [ze6, List.getElem?_drop] at hu
   have := hx _ u hu
   rwa [show o + k + j = o + (k + j) by omega]
theorem SlU.some_ {w : World} {A : Option Addr} {n c : Nat} {bytes : List UInt8} (h : SlU w A n c bytes) (hn : 0 < n) : ∃ g o cur, A = some ⟨g, o, none⟩ /\ Blk w g 5 cur := by
 obtain ⟨g, o, cur, hA, hg, _⟩ := h.2.2.2 hn
 exact ⟨g, o, cur, hA, hg⟩
theorem zcm {P : Program} {f : FuncId} {args : Array Value} {w : World} {n : Nat} {v : Value} (h : Calls P f args (w.drewN n) fun e w' => e = .returned v /\ w.drewN n = w') : Calls P f args (w.drewN n) fun e w'' => e = .returned v /\ ∃ m, w'' = w.drewN m :=
 h.mono fun _ _ ⟨he, hm⟩ => ⟨he, n, hm.symm⟩
theorem zqb {P : Program} {f : FuncId} {args : Array Value} {w : World} {n : Nat} {v : Value} (h : Calls P f args (w.drewN n) fun e w' => zrx v (w.drewN n) e w') : Calls P f args (w.drewN n) fun e w'' => e = .returned v /\ ∃ m, w'' = w.drewN m :=
 Calls.quiet_of h
theorem zuy {a b : Bool} (h : a = b) : Ending.returned (.bool a) = Ending.returned (.bool b) := by rw [h]
def zd7 (bytes : List UInt8) : Bool := get4 bytes == crcN (bytes.drop 4)
theorem zop (A : Option Addr) (n c : Nat) (bytes : List UInt8) (w : World) (h : SlU w A n c bytes) (h4 : 4 < n) (hn : n <= 1000) :
   Calls Tryz.prog 194 #[.slice A n c] w fun e w' => zrx (.bool (zd7 bytes)) w e w' := by
 obtain ⟨g, o, cur, rfl, hg⟩ := h.some_ (by omega)
 have hnc := h.2.1
 have HG := zaa (fun k => zqa (some ⟨g, o, none⟩) n c bytes (w.drewN k) ((h.below (zam (Below.refl _ _) k))) (by omega) hn)
 have ht := h.tail 4 (by omega) (by omega)
 have hA : (some (⟨g, o, none⟩ : Addr)).map (·.add 4) = some ⟨g, o + 4, none⟩ := rfl
 rw [hA] at ht
 have HT := zaa (fun k => zn1 (some ⟨g, o + 4, none⟩) (n - 4) (c - 4) (bytes.drop 4) (w.drewN k) (ht.below (zam (Below.refl _ _) k)) (by omega))
 clear hg h ht hA
 have q1 : ¬ (c : Int) = 4 := by omega
 have q2 : (4 : Int) <= n := by omega
 have q3 : (n : Int) <= c := by omega
 have q4 : ¬ c = 4 := by omega
 go_enter Tryz.func194, Tryz.ntmps194
 go_wp2
 go_quiet (first | ((go_at_call 195; exact zqb (HG.out _))) | ((go_at_call 170; exact zcm (HT.out _))))
 go_wp2
 go_ret
 refine ⟨zuy ?_, _, rfl⟩
 unfold zd7
 rw [Bool.eq_iff_iff, beq_iff_eq, beq_iff_eq]
 exact Int.ofNat_inj
theorem SlU.whole {w : World} {g : Nat} {bytes : List UInt8} {n : Nat} (hb : Blk w g 5 (bc bytes).toArray) (hn : bytes.length = n) (hn2 : n <= 1000) : SlU w (some ⟨g, 0, none⟩) n n bytes :=
 ⟨hn, Nat.le_refl _, by unfold maxLen; omega, fun _ => ⟨g, 0, _, rfl, hb, fun j u hu => by simpa using hu⟩⟩
def zho (bytes : List UInt8) : List UInt8 := le4 (crcN (bytes.drop 4)) ++ bytes.drop 4
theorem zlg (bytes : List UInt8) : zd7 (zho bytes) = true := by
 unfold zd7 zho
 rw [zfd _ (zn0 _), List.drop_left' (zix _)]
 exact beq_self_eq_true _
theorem zry (g n : Nat) (bytes : List UInt8) (w : World) (hb : Blk w g 5 (bc bytes).toArray) (hl : bytes.length = n) (h4 : 4 < n) (hn : n <= 1000) :
   Calls Tryz.prog 135 #[.slice (some ⟨g, 0, none⟩) n n] w fun e w' => e = .returned (.tuple #[]) /\ Blk w' g 5 (bc (zho bytes)).toArray /\ Only (· = g) w w' := by
 have ht := (SlU.whole hb hl hn).tail 4 (by omega) (by omega)
 have hA : (some (⟨g, 0, none⟩ : Addr)).map (·.add 4) = some ⟨g, 4, none⟩ := rfl
 rw [hA] at ht
 have HT := zaa (zn1 (some ⟨g, 4, none⟩) (n - 4) (n - 4) (bytes.drop 4) w ht (by omega))
 have HP := zaa (zp9 g 0 n n (bc bytes) (crcN (bytes.drop 4)) w hb (by rw [zax, hl]; omega) (by omega) hn (zn0 _))
 have HE : Hid (spl (bc bytes) 0 (bc (le4 (crcN (bytes.drop 4)))) = bc (zho bytes)) := by
  unfold spl zho
  rw [zf3, ze6, List.take_zero, List.nil_append, zax, zix, Nat.zero_add]
  exact rfl
 clear ht hA hb hl
 have q1 : ¬ (n : Int) = 4 := by omega
 have q2 : (4 : Int) <= n := by omega
 have q4 : ¬ n = 4 := by omega
 go_enter Tryz.func135, Tryz.ntmps135
 go_wp2_with (first
  | (go_at_call 170; refine HT.out.mono ?_; rintro e w' ⟨rfl, rfl⟩)
  | (go_at_call 134; refine HP.out.mono ?_; rintro e w1 ⟨rfl, hb1, ho1⟩))
 go_end0
 rw [HE.out] at hb1
 exact ⟨rfl, hb1, ho1⟩
def zd8 (l : List UInt8) (o : Nat) (cs : List UInt8) : List UInt8 := l.take o ++ cs ++ l.drop (o + cs.length)
theorem ztr (l : List UInt8) (o : Nat) (cs : List UInt8) : spl (bc l) o (bc cs) = bc (zd8 l o cs) := by
 unfold spl zd8
 rw [zf3, zf3, zhm, ze6, zax]
theorem zgb (g o n c : Nat) (bytes : List UInt8) (x : Nat) (w : World) (hb : Blk w g 5 (bc bytes).toArray) (h1 : o + 4 <= bytes.length) (h2 : 4 <= n) (hn : n <= 1000) (hx : x < 4294967296) :
   Calls Tryz.prog 136 #[.slice (some ⟨g, o, none⟩) n c, .int .u32 x] w fun e w' => e = .returned (.tuple #[]) /\ Blk w' g 5 (bc (zd8 bytes o (le4 x))).toArray /\ Only (· = g) w w' :=
 (zoo g o n c (bc bytes) x w hb (by rw [zax]; exact h1) h2 hn hx).mono fun _ _ ⟨h1, h2, h3⟩ => ⟨h1, by rw [<- ztr]; exact h2, h3⟩
def Z32 : List UInt8 := List.replicate 32 0
theorem zuz (w : World) : (Instr.makeSlice 77 (.int .i64 32) (.int .i64 32)).run Tryz.prog w = .ok (.slice (some ⟨w.heap.size, 0, none⟩) 32 32) (w.alloc (.cells (bc Z32).toArray 5)) := by kernel_rfl
def ziy (gen blk rgen : Nat) : List UInt8 := zd8 (zd8 (zd8 (zd8 Z32 4 (le4 827479123)) 8 (le4 gen)) 12 (le4 blk)) 16 (le4 rgen)
def zbx (gen blk rgen : Nat) : List UInt8 := zho (ziy gen blk rgen)
def za7 (slot gen blk rgen : Nat) : Array Value := #[.int .i64 slot, .int .u32 gen, .int .i64 blk, .int .u32 rgen]
set_option maxHeartbeats 1000000 in
theorem zkz (slot gen blk rgen : Nat) (w : World) (hg : gen < 4294967296) (hbk : blk < 4294967296) (hr : rgen < 4294967296) :
   Calls Tryz.prog 95 #[.agg (za7 slot gen blk rgen)] w fun e w' => ∃ g, e = .returned (.slice (some ⟨g, 0, none⟩) 32 32) /\ Blk w' g 5 (bc (zbx gen blk rgen)).toArray /\ w.heap.size <= g /\ Below w.heap.size w w' := by
 have hmk := zuz
 have l0 : Z32.length = 32 := rfl
 have l1 : (zd8 Z32 4 (le4 827479123)).length = 32 := rfl
 have l2 : (zd8 (zd8 Z32 4 (le4 827479123)) 8 (le4 gen)).length = 32 := rfl
 have l3 : (zd8 (zd8 (zd8 Z32 4 (le4 827479123)) 8 (le4 gen)) 12 (le4 blk)).length = 32 := rfl
 have l4 : (ziy gen blk rgen).length = 32 := rfl
 have L0 := zaa l0
 have L1 := zaa l1
 have L2 := zaa l2
 have L3 := zaa l3
 have L4 := zaa l4
 have q0 : (0 : Int) <= (blk : Int) := by omega
 have q1 : (blk : Int) < 4294967296 := by omega
 clear l0 l1 l2 l3 l4
 unfold za7
 go_enter Tryz.func95, Tryz.ntmps95
 go_wp2_with fail
 have hb0 : Blk ((w.alloc (.cells #[.int .i64 slot, .int .u32 gen, .int .i64 blk, .int .u32 rgen] 149)).alloc (.cells (bc Z32).toArray 5)) (w.heap.size + 1) 5 (bc Z32).toArray := Blk.new2 _ _ _ _
 have hh0 : Blk ((w.alloc (.cells #[.int .i64 slot, .int .u32 gen, .int .i64 blk, .int .u32 rgen] 149)).alloc (.cells (bc Z32).toArray 5)) w.heap.size 149 #[.int .i64 slot, .int .u32 gen, .int .i64 blk, .int .u32 rgen] := (Blk.new w _ _).alloc _
 have hbel : Below w.heap.size w ((w.alloc (.cells #[.int .i64 slot, .int .u32 gen, .int .i64 blk, .int .u32 rgen] 149)).alloc (.cells (bc Z32).toArray 5)) := ((Below.refl _ _).alloc (Nat.le_refl _) _).alloc (by simp) _
 have HB0 := zaa hb0
 have HH0 := zaa hh0
 have HBEL := zaa hbel
 clear hb0 hh0 hbel hmk
 refine (zgb (w.heap.size + 1) 4 28 28 Z32 827479123 _ HB0.out (by rw [L0.out]; omega) (by omega) (by omega) (by omega)).mono ?_
 rintro e w1 ⟨rfl, hb1, ho1⟩
 have hh1 := ho1.blk HH0.out (by simp)
 have c1 : w1.cell? ⟨w.heap.size, 1, none⟩ = some (.int .u32 gen) := zab hh1 1 rfl
 have HB1 := zaa hb1
 have HO1 := zaa ho1
 have HH1 := zaa hh1
 clear hb1 ho1 hh1
 go_wp2_with fail
 go_region_with (go_at_call 136; refine (zgb (w.heap.size + 1) 8 24 24 _ gen _ HB1.out.drew (by rw [L1.out]; omega) (by omega) (by omega) hg).mono ?_; rintro e w2 ⟨rfl, hb2, ho2⟩)
 have hh2 := (Only.blk ho2 HH1.out.drew (by simp))
 have c2 : w2.cell? ⟨w.heap.size, 2, none⟩ = some (.int .i64 blk) := zab hh2 2 rfl
 have HB2 := zaa hb2
 have HO2 := zaa ho2
 have HH2 := zaa hh2
 clear hb2 ho2 hh2 c1
 have hwrap : IntKind.u32.wrap (blk : Int) = (blk : Int) := by rw [IntKind.wrap_u32]; omega
 have hmod : (blk : Int) % 4294967296 = (blk : Int) := by omega
 go_wp2_with fail
 go_region_with (go_at_call 136; refine (zgb (w.heap.size + 1) 12 20 20 _ blk _ HB2.out.drew (by rw [L2.out]; omega) (by omega) (by omega) hbk).mono ?_; rintro e w3 ⟨rfl, hb3, ho3⟩)
 have hh3 := (Only.blk ho3 HH2.out.drew (by simp))
 have c3 : w3.cell? ⟨w.heap.size, 3, none⟩ = some (.int .u32 rgen) := zab hh3 3 rfl
 have HB3 := zaa hb3
 have HO3 := zaa ho3
 have HH3 := zaa hh3
 clear hb3 ho3 hh3 c2 hwrap hmod
 go_wp2_with fail
 go_region_with (go_at_call 136; refine (zgb (w.heap.size + 1) 16 16 16 _ rgen _ HB3.out.drew (by rw [L3.out]; omega) (by omega) (by omega) hr).mono ?_; rintro e w4 ⟨rfl, hb4, ho4⟩)
 have HB4 := zaa hb4
 have HO4 := zaa ho4
 clear hb4 ho4 c3
 go_wp2_with (go_at_call 135; refine (zry (w.heap.size + 1) 32 (ziy gen blk rgen) _ HB4.out L4.out (by omega) (by omega)).mono ?_; rintro e w5 ⟨rfl, hb5, ho5⟩)
 go_ret
 refine ⟨_, rfl, hb5, by omega, ?_⟩
 have hfp : ∀ x : Nat, x = w.heap.size + 1 -> w.heap.size <= x := fun x hx => by omega
 have s1 : w.heap.size + 1 <= w1.heap.size := by have := HH1.out.lt; omega
 have s2 : w.heap.size + 1 <= w2.heap.size := by have := HH2.out.lt; omega
 have s3 : w.heap.size + 1 <= w3.heap.size := by have := HH3.out.lt; omega
 have s4 : w.heap.size <= w4.heap.size := by have := HB4.out.lt; omega
 exact ((((HBEL.out.trans (HO1.out.to_below (by simp only [World.size_alloc]; omega) hfp)).drew.trans (HO2.out.to_below (show w.heap.size <= w1.heap.size by omega) hfp)).drew.trans (HO3.out.to_below (show w.heap.size <= w2.heap.size by omega) hfp)).drew.trans (HO4.out.to_below (show w.heap.size <= w3.heap.size by omega) hfp)).trans (ho5.to_below s4 hfp)
section
variable {P : Program} {w : World} {ops : Array Oper} {a : Act} {Q : Exit -> Act -> World -> Prop}
theorem zac {S : World -> Prop} {md : Region.Mode} (i : Nat) {oi : Oper} (v : Value) {fuel : Nat} {listed : Array Bool} (d : Option Tmp) (hi : ops[i]? = some oi) (hd : oi.dst = d) (hy : YieldsIf P ops S oi v a) (hS : S w) (h : wpAnyH P md ops Q S fuel (listed.setIfInBounds i true) (a.put d v) w)
   (hs : Region.noSelect ops = true := by kernel_rfl) (hf : Region.free md ops listed i = true := by kernel_rfl) (hr : (Region.ready md ops listed).contains i = true := by kernel_rfl) (hQ : ∀ c a w, Q (.panic c) (a.put d v) w -> Q (.panic c) a w := by exact fun _ _ _ h => h) : wpAnyH P md ops Q S (fuel + 1) listed a w :=
 zai d hi hd hs hf hr hQ hy hS h
end
theorem n1 {α : Type _} (l : List α) (i : Nat) (a : α) : l.toArray.setIfInBounds i a = (l.set i a).toArray := List.setIfInBounds_toArray l i a
theorem n2 {α : Type _} (a b : α) (l : List α) : (a :: l).set 0 b = b :: l := List.set_cons_zero
theorem n3 {α : Type _} (a b : α) (l : List α) (i : Nat) : (a :: l).set (i + 1) b = a :: l.set i b := List.set_cons_succ
end Go.Proofs.YtemondlgcmpbbaaGreatDoor
