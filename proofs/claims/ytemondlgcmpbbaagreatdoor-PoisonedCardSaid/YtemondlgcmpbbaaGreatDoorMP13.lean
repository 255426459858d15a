/- By Bk: merged. -/
import Derived.Test.YtemondlgcmpbbaaGreatDoorMP12
import Derived.Deep.DeepCutAuto
namespace Go.Proofs.YtemondlgcmpbbaaGreatDoor
open Go.RowKit
set_option maxRecDepth 100000
def Z12 : List UInt8 := [0, 0, 0, 0, 0, 0, 0, 0, 0, 0, 0, 0]
theorem zvt (w : World) : (Instr.makeSlice 77 (.int .i64 12) (.int .i64 128)).run Tryz.prog w = .ok (.slice (some ⟨w.heap.size, 0, none⟩) 12 128) (w.alloc (.cells (bc (pad 128 Z12)).toArray 5)) := by kernel_rfl
theorem zhk (n : Nat) : (by8 n).toNat = n % 256 := zb4 _ (Nat.mod_lt _ (by omega))
theorem Blk.byte {w : World} {g i n : Nat} {l r : List UInt8} {x : UInt8} (h : Blk w g 5 (bc (pad 128 (l ++ x :: r))).toArray) (hi : l.length = i) {v : Int} (hv : v = ((n % 256 : Nat) : Int)) : Blk (w.setCell ⟨g, i, none⟩ (.int .u8 v)) g 5 (bc (pad 128 (l ++ by8 n :: r))).toArray := by
 have := h.set_ i (.int .u8 v)
 have e : ((bc (pad 128 (l ++ x :: r))).toArray.setIfInBounds i (.int .u8 v)) = (bc (pad 128 (l ++ by8 n :: r))).toArray := by
  rw [List.setIfInBounds_toArray]
  congr 1
  unfold pad bc
  subst hi
  rw [hv, <- zhk]
  simp
 rw [e] at this
 exact this
def z2e (es : List (Str × Str)) (hd : List UInt8) (g : Nat) (w : World) (s3 s : Value) (wr : World) : Prop :=
 ∃ k : Nat, k <= es.length /\ s = .int .i64 k /\ s3 = .slice (some ⟨g, 0, none⟩) (hd ++ (es.take k).flatMap pby).length 128 /\ Blk wr g 5 (bc (pad 128 (hd ++ (es.take k).flatMap pby))).toArray /\ Below g w wr
theorem z0v (a b : Nat) (ha : a < 256) (hb : b < 256) : bc [by8 a, by8 b] = [.int .u8 a, .int .u8 b] := by
 unfold bc
 simp only [List.map_cons, List.map_nil, zhk, Nat.mod_eq_of_lt ha, Nat.mod_eq_of_lt hb]
theorem zpk (es : List (Str × Str)) (k : Nat) : ((es.take k).flatMap pby).length <= lsum es := by
 rw [<- zgx, <- List.take_append_drop k es, List.flatMap_append, List.length_append, List.take_append_drop]
 omega
theorem zxj {es : List (Str × Str)} {k : Nat} (h : k < es.length) : (es.take (k + 1)).flatMap pby = (es.take k).flatMap pby ++ pby es[k] := by
 rw [List.take_add_one, List.getElem?_eq_getElem h, List.flatMap_append]; simp
set_option maxHeartbeats 3200000 in
theorem zt7 (es : List (Str × Str)) (b blk gen c1 c2 : Nat) (d : Bool) (A1 A2 : Option Addr) (w : World) (hn : NodeIs w b blk gen d A1 es.length c1 (pcells es) A2 0 c2 [])
   (hs : lsum es <= 116) (hg : gen < 4294967296) (_hb : blk < 65536) :
   Calls Tryz.prog 93 #[P b] w fun e w' => ∃ g, e = .returned (.slice (some ⟨g, 0, none⟩) 128 128) /\ Blk w' g 5 (bc (sealN (pad 128 (nhd blk gen 1 es.length ++ es.flatMap pby)))).toArray /\ w.heap.size <= g /\ Below w.heap.size w w' := by
 have hmk := zvt
 obtain ⟨i0, hi0, hz0⟩ := Option.map_eq_some_iff.1 zgj
 have HI0 := zaa hi0
 have HZ0 := zaa hz0
 clear hi0 hz0
 have hlen : es.length <= 58 := by
  have : 2 * es.length <= lsum es := by
   clear hn hs
   induction es with
   | nil => exact Nat.zero_le _
   | cons e es ih => simp only [lsum, List.map_cons, List.sum_cons, List.length_cons, lsz] at *; omega
  omega
 have hal := Blk.new w 5 (bc (pad 128 Z12)).toArray
 have hb0 : Below w.heap.size w (w.alloc (.cells (bc (pad 128 Z12)).toArray 5)) := (Below.refl _ _).alloc (Nat.le_refl _) _
 have hblt : b < w.heap.size := Blk.lt hn.node
 have c1' : (w.alloc (.cells (bc (pad 128 Z12)).toArray 5)).cell? ⟨b, 1, none⟩ = some (.int .u32 gen) := (hb0.cell hblt).trans (zab hn.node 1 rfl)
 have e1 : zdj (pad 128 Z12) 4 (le4 gen) = pad 128 ([0, 0, 0, 0] ++ le4 gen ++ [0, 0, 0, 0]) := zm0 [0, 0, 0, 0] [0, 0, 0, 0] (le4 gen) [0, 0, 0, 0] rfl
 have LEAF := zaa (fun W h => zdn b blk gen c2 d (.slice A1 es.length c1) A2 W h)
 have HAL := zaa hal
 have HB0 := zaa hb0
 have HN := zaa hn
 have E1 := zaa e1
 have HP := zaa (zg9 w.heap.size 4 8 124 (bc (pad 128 Z12)) gen _ hal.drew (by rw [zal]; decide) (by omega) (by omega) hg)
 have HC1 := zaa (fun w1 (ho : Only (· = w.heap.size) (w.alloc (.cells (bc (pad 128 Z12)).toArray 5)).drew w1) => (show w1.cell? ⟨b, 1, none⟩ = some (.int .u32 gen) from (ho.cell (p := ⟨b, 1, none⟩) (by show b < _; simp; omega) (by show ¬ b = _; omega)).trans c1'))
 clear hal hb0 hn e1
 unfold P
 unfold P at LEAF
 go_enter Tryz.func93, Tryz.ntmps93
 go_wp2_with fail
 go_region_held3 (fun w' => w'.cell? ⟨b, 1, none⟩ = some (.int .u32 gen)) (first | go_keep | exact HC1.out _ ‹_›)
  ((go_at_call 134; ((with_reducible refine HP.out.mono ?_); rintro e w1 ⟨rfl, hb1, ho1⟩)))
 have hb1' : Blk w1 w.heap.size 5 (bc (pad 128 ([0, 0, 0, 0] ++ le4 gen ++ [0, 0, 0, 0]))).toArray := by rw [zhz, E1.out] at hb1; exact hb1
 have hbel1 : Below w.heap.size w w1 := HB0.out.drew.trans (ho1.to_below (by simp) fun x hx => by omega)
 have c0 : w1.cell? ⟨b, 0, none⟩ = some (.int .i64 blk) := (hbel1.cell hblt).trans (zab HN.out.node 0 rfl)
 have hne : ¬ b = w.heap.size := by omega
 have hne' : ¬ w.heap.size = b := by omega
 have y8 : w1.cell? ⟨w.heap.size, 8, none⟩ = some (.int .u8 0) := zab hb1' 8 rfl
 have y9 : w1.cell? ⟨w.heap.size, 9, none⟩ = some (.int .u8 0) := zab hb1' 9 rfl
 have z8 : w1.frozen? ⟨w.heap.size, 8, none⟩ = false := hb1'.frozen 8
 have z9 : w1.frozen? ⟨w.heap.size, 9, none⟩ = false := hb1'.frozen 9
 have HB1 := zaa hb1'
 have HBEL1 := zaa hbel1
 clear hb1 hb1' hbel1 ho1 HC1 HP hmk c1'
 go_upto_region 3 with fail
 go_cut [] (fun wx => Blk wx w.heap.size 5 (bc (pad 128 ([0, 0, 0, 0] ++ le4 gen ++ [by8 blk, by8 (blk / 256), 0, 0]))).toArray /\ Below w.heap.size w wx)
 case first =>
  go_region_held3 (fun w' => w'.cell? ⟨b, 0, none⟩ = some (.int .i64 blk)) (go_keep) (fail)
  all_goals
   go_wp2
   go_meet
   have h8 := Blk.byte (l := [0, 0, 0, 0] ++ le4 gen) (x := 0) (r := [0, 0, 0]) (n := blk) HB1.out (i := 8) rfl (v := IntKind.u8.wrap blk) (by rw [IntKind.wrap_u8]; omega)
   have h9 := Blk.byte (l := [0, 0, 0, 0] ++ le4 gen ++ [by8 blk]) (x := 0) (r := [0, 0]) (n := blk / 256) h8 (i := 9) rfl (v := IntKind.u8.wrap ((blk : Int) / 256)) (by rw [IntKind.wrap_u8]; omega)
   exact ⟨h9.drew, ((HBEL1.out.setCell (p := ⟨w.heap.size, 8, none⟩) (Nat.le_refl _) _).setCell (p := ⟨w.heap.size, 9, none⟩) (Nat.le_refl _) _).drew⟩
 case rest =>
 obtain ⟨hb2, hbel2⟩ := hcut
 have hn2 := HN.out.keep (Keep.of_below hbel2)
 have c3 : wc.cell? ⟨b, 3, none⟩ = some (.slice A1 es.length c1) := zab hn2.node 3 rfl
 have y10 : wc.cell? ⟨w.heap.size, 10, none⟩ = some (.int .u8 0) := zab hb2 10 rfl
 have y11 : wc.cell? ⟨w.heap.size, 11, none⟩ = some (.int .u8 0) := zab hb2 11 rfl
 have z10 : wc.frozen? ⟨w.heap.size, 10, none⟩ = false := hb2.frozen 10
 have z11 : wc.frozen? ⟨w.heap.size, 11, none⟩ = false := hb2.frozen 11
 have HB2 := zaa hb2
 have HBEL2 := zaa hbel2
 have HN2 := zaa hn2
 clear hb2 hbel2 hn2 c0 y8 y9 z8 z9
 go_wp2_with (go_at_call 81; refine (LEAF.out _ HN2.out.node).mono ?_; rintro e w' ⟨rfl, rfl⟩)
 go_loopw [3, 51] (fun s3 s wr => z2e es (nhd blk gen 1 es.length) w.heap.size w s3 s wr) (fun _ s _ => es.length - (intOf s).toNat)
 case atStart =>
  have h10 := Blk.byte (l := [0, 0, 0, 0] ++ le4 gen ++ [by8 blk, by8 (blk / 256)]) (x := 0) (r := [0]) (n := 1) HB2.out (i := 10) rfl (v := 1) rfl
  have h11 := Blk.byte (l := [0, 0, 0, 0] ++ le4 gen ++ [by8 blk, by8 (blk / 256), by8 1]) (x := 0) (r := []) (n := es.length) h10 (i := 11) rfl (v := es.length) (by omega)
  exact ⟨0, Nat.zero_le _, rfl, rfl, (by rw [List.take_zero, List.flatMap_nil, List.append_nil]; exact h11), (HBEL2.out.setCell (p := ⟨w.heap.size, 10, none⟩) (Nat.le_refl _) _).setCell (p := ⟨w.heap.size, 11, none⟩) (Nat.le_refl _) _⟩
 case round =>
  obtain ⟨k, hk, rfl, rfl, hbr, hbe⟩ := hrel
  by_cases hlt : k < es.length
  . obtain ⟨g, o, u, v, rfl, hu, hv, q1, q2, hgl⟩ := HN.out.ps.cells_at hbe hlt
    have hpe := zct es k hlt
    have e1 := hu.symm.trans hpe.1
    have e2 := hv.symm.trans hpe.2
    injection e1 with e1
    injection e2 with e2
    subst e1; subst e2
    obtain ⟨x, hx⟩ : ∃ x, x = es[k] := ⟨_, rfl⟩
    rw [<- hx] at q1 q2
    have hst := zxj hlt
    rw [<- hx] at hst
    have hle := zpk es (k + 1)
    rw [hst, List.length_append, zsr] at hle
    have hcc : ∃ c1', es.length <= c1 /\ c1 <= maxLen /\ c1' = c1 := by
     obtain ⟨_, _, _, hv, e1, e2, _⟩ := HN.out.ps
     injection hv with _ _ e3
     subst e3
     exact ⟨_, e1, e2, rfl⟩
    obtain ⟨_, hc1, hc2, -⟩ := hcc
    unfold maxLen at hc2
    have hsz : x.1.size + x.2.size <= 116 := by unfold lsz at hle; omega
    have k0 : (0 : Int) <= (k : Int) := by omega
    have k1 : (k : Int) < (es.length : Int) := by omega
    have HST := zaa hst
    have HLE := zaa hle
    have HX := zaa hx
    have HBR := zaa hbr
    have HBE := zaa hbe
    clear hu hv hpe hst hle hx hbr hbe
    obtain ⟨L, hL⟩ : ∃ L, L = nhd blk gen 1 es.length ++ (es.take k).flatMap pby := ⟨_, rfl⟩
    rw [<- hL] at HBR ⊢
    have hLl : L.length + lsz x <= 128 := by have := HLE.out; rw [hL, List.length_append, zfm]; omega
    have hLs : L.length + (2 + x.1.size + x.2.size) <= 128 := hLl
    have HL := zaa hL
    clear hL hLl
    have hp1 : Blk ((wr.alloc (.cells #[.string x.1, .string x.2] 68)).alloc (.cells #[.int .u8 x.1.size, .int .u8 x.2.size] 5)) wr.heap.size 68 #[.string x.1, .string x.2] := (Blk.new _ _ _).alloc _
    have hp2 : Blk ((wr.alloc (.cells #[.string x.1, .string x.2] 68)).alloc (.cells #[.int .u8 x.1.size, .int .u8 x.2.size] 5)) (wr.heap.size + 1) 5 (bc [by8 x.1.size, by8 x.2.size]).toArray := by
     rw [z0v _ _ (by omega) (by omega)]
     exact Blk.new2 _ _ _ _
    have hp3 := (HBR.out.alloc (.cells #[.string x.1, .string x.2] 68)).alloc (.cells #[.int .u8 x.1.size, .int .u8 x.2.size] 5)
    have hgl2 : w.heap.size < wr.heap.size := HBR.out.lt
    have HP1 := zaa hp1
    have HP2 := zaa hp2
    have HP3 := zaa hp3
    clear hp1 hp2 hp3
    go_wp2_with (at_builtin; refine zl1 _ rfl _ _ _ _ rfl 5 i0 Tryz.underlying77 HI0.out HZ0.out w.heap.size 128 L [by8 x.1.size, by8 x.2.size] rfl HP3.out _ rfl (zm2 Tryz.underlying77 HP2.out) (by simp only [List.length_cons, List.length_nil]; omega) (by simp only [List.length_cons, List.length_nil]; omega) ?_; intro w1 hb1 ho1 hs1)
    have hp1' := ho1.blk HP1.out (by omega)
    have q1' : w1.cell? ⟨wr.heap.size, 0, none⟩ = some (.string x.1) := zab hp1' 0 rfl
    have q2' : w1.cell? ⟨wr.heap.size, 1, none⟩ = some (.string x.2) := zab hp1' 1 rfl
    have hlt1 : wr.heap.size < w1.heap.size := hp1'.lt
    have hbw1 : Below w.heap.size w w1 := ((HBE.out.alloc HBE.out.size _).alloc (by simp; have := HBE.out.size; omega) _).trans (ho1.to_below (by simp; have := HBE.out.size; omega) fun y hy => by omega)
    obtain ⟨L2, hL2⟩ : ∃ L2, L2 = L ++ [by8 x.1.size, by8 x.2.size] := ⟨_, rfl⟩
    have hL2l : L2.length = L.length + 2 := by rw [hL2]; simp
    rw [<- hL2] at hb1
    rw [<- hL2l]
    have hx1 := zds x.1
    have hx2 := zds x.2
    have r1 : L2.length + (sb x.1).length <= 128 := by omega
    have r2 : ∀ L3 : List UInt8, L3 = L2 ++ sb x.1 -> L3.length + (sb x.2).length <= 128 := by rintro L3 rfl; rw [List.length_append]; omega
    have R1 := zaa r1
    have R2 := zaa r2
    have HL2 := zaa hL2
    have HB3 := zaa hb1.drew
    have HBW1 := zaa hbw1
    clear hL2 hL2l hx1 hx2 hb1 ho1 hp1' r1 r2 hbw1 hs1
    go_region_held3 (fun w' => w'.cell? ⟨wr.heap.size, 0, none⟩ = some (.string x.1) /\ w'.cell? ⟨wr.heap.size, 1, none⟩ = some (.string x.2)) (first | go_keep | exact ⟨‹_›, ‹_›⟩)
     (first
      | ((refine zdt _ rfl _ _ _ _ (by rfl) 5 i0 Tryz.underlying77 HI0.out HZ0.out w.heap.size 128 L2 (sb x.1) (by rfl) HB3.out _ (by rfl) (zm1 Tryz.underlying9 x.1 _) R1.out R1.out ?_); intro w2 hb2 ho2 hs2
         (have t1 : w2.cell? ⟨wr.heap.size, 0, none⟩ = some (.string x.1) := (ho2.cell (p := ⟨wr.heap.size, 0, none⟩) hlt1 (by show ¬ wr.heap.size = w.heap.size; omega)).trans q1')
         (have t2 : w2.cell? ⟨wr.heap.size, 1, none⟩ = some (.string x.2) := (ho2.cell (p := ⟨wr.heap.size, 1, none⟩) hlt1 (by show ¬ wr.heap.size = w.heap.size; omega)).trans q2')
         (obtain ⟨L3, hL3⟩ : ∃ L3, L3 = L2 ++ sb x.1 := ⟨_, rfl⟩)
         rw [<- hL3] at hb2
         rw [<- hL3]
         (have r2 := R2.out L3 hL3)
         (have hlt2 : wr.heap.size < w2.heap.size := Nat.lt_of_lt_of_le hlt1 ho2.size)
         (have HB4 := zaa hb2)
         (have HO2 := zaa ho2)
         (have HL3 := zaa hL3)
         (clear hb2 ho2 hs2 hL3))
      | ((refine zdt _ rfl _ _ _ _ (by rfl) 5 i0 Tryz.underlying77 HI0.out HZ0.out w.heap.size 128 L3 (sb x.2) (by rfl) HB4.out _ (by rfl) (zm1 Tryz.underlying9 x.2 _) r2 r2 ?_); intro w3 hb3 ho3 hs3
         (have t3 : w3.cell? ⟨wr.heap.size, 0, none⟩ = some (.string x.1) := (ho3.cell (p := ⟨wr.heap.size, 0, none⟩) hlt2 (by show ¬ wr.heap.size = w.heap.size; omega)).trans t1)
         (have t4 : w3.cell? ⟨wr.heap.size, 1, none⟩ = some (.string x.2) := (ho3.cell (p := ⟨wr.heap.size, 1, none⟩) hlt2 (by show ¬ wr.heap.size = w.heap.size; omega)).trans t2)))
    go_wp2
    have hfin : nhd blk gen 1 es.length ++ (es.take (k + 1)).flatMap pby = L3 ++ sb x.2 := by
     rw [HST.out, HL3.out, HL2.out, HL.out]
     unfold pby
     simp
    go_roundw
    case rel =>
     refine ⟨k + 1, by omega, by go_num, ?_, ?_, ?_⟩
     . rw [hfin, List.length_append]
     . rw [hfin]; exact hb3
     . have hz := HBW1.out.size
       exact (HBW1.out.drew.trans (HO2.out.to_below (show w.heap.size <= w1.heap.size from hz) fun y hy => by omega)).trans (ho3.to_below (Nat.le_trans hz HO2.out.size) fun y hy => by omega)
    case measure => simp [intOf]; omega
  . have k1 : ¬ (k : Int) < (es.length : Int) := by omega
    obtain rfl : k = es.length := by omega
    have hle := zpk es es.length
    rw [List.take_length] at hbr hle ⊢
    obtain ⟨L, hL⟩ : ∃ L, L = nhd blk gen 1 es.length ++ es.flatMap pby := ⟨_, rfl⟩
    have hLl : L.length <= 128 := by rw [hL, List.length_append, zfm]; omega
    rw [<- hL] at hbr ⊢
    have hLi : (L.length : Int) <= 128 := by omega
    have hpl : (pad 128 L).length = 128 := zb5 _ _ hLl
    have HS := zaa (fun W hb => zkm w.heap.size 128 (pad 128 L) W hb hpl (by omega) (by omega))
    have HBR := zaa hbr
    have HBE := zaa hbe
    have HLL := zaa hL
    clear hbr hbe hL hle hpl
    go_wp2_with (go_at_call 135; refine (HS.out _ HBR.out).mono ?_; rintro e w5 ⟨rfl, hb5, ho5⟩)
    go_ret
    exact ⟨_, rfl, by rw [HLL.out] at hb5; exact hb5, Nat.le_refl _, HBE.out.trans (ho5.to_below HBE.out.size fun y hy => by omega)⟩
section
variable {K : Type} (bl ge : K -> Nat)
def kbl (e : Str × K) : List UInt8 := kby e.1 (bl e.2) (ge e.2)
theorem zzd (e : Str × K) : (kbl bl ge e).length = ksz e := zss ..
theorem z0w (a : Nat) (ha : a < 256) : bc [by8 a] = [.int .u8 a] := by
 unfold bc
 simp only [List.map_cons, List.map_nil, zhk, Nat.mod_eq_of_lt ha]
theorem z0x (a : Nat) : bc [by8 a, by8 (a / 256), 0, 0, 0, 0] = [.int .u8 (IntKind.u8.wrap a), .int .u8 (IntKind.u8.wrap ((a : Int) / 256)), .int .u8 0, .int .u8 0, .int .u8 0, .int .u8 0] := by
 unfold bc
 simp only [List.map_cons, List.map_nil, zhk, IntKind.wrap_u8]
 rfl
def z2f (es : List (Str × K)) (hd : List UInt8) (g : Nat) (w : World) (s3 s : Value) (wr : World) : Prop :=
 ∃ k : Nat, k <= es.length /\ s = .int .i64 k /\ s3 = .slice (some ⟨g, 0, none⟩) (hd ++ (es.take k).flatMap (kbl bl ge)).length 128 /\ Blk wr g 5 (bc (pad 128 (hd ++ (es.take k).flatMap (kbl bl ge)))).toArray /\ Below g w wr
theorem zpl (es : List (Str × K)) (k : Nat) : ((es.take k).flatMap (kbl bl ge)).length <= ksum es := by
 have : (es.flatMap (kbl bl ge)).length = ksum es := zkz bl ge es
 rw [<- this, <- List.take_append_drop k es, List.flatMap_append, List.length_append, List.take_append_drop]
 omega
theorem zxk {es : List (Str × K)} {k : Nat} (h : k < es.length) : (es.take (k + 1)).flatMap (kbl bl ge) = (es.take k).flatMap (kbl bl ge) ++ kbl bl ge es[k] := by
 rw [List.take_add_one, List.getElem?_eq_getElem h, List.flatMap_append]; simp
set_option maxHeartbeats 3200000 in
theorem zpm (es : List (Str × K)) (bs : List Nat) (b blk gen c1 c2 : Nat) (d : Bool) (A1 A2 : Option Addr) (w : World) (hn : NodeIs w b blk gen d A1 0 c1 [] A2 es.length c2 (kcells es bs)) (hbs : bs.length = es.length) (h1 : 1 <= es.length)
   (hs : ksum es <= 116) (hg : gen < 4294967296) (_hb : blk < 65536) (hkid : ∀ j (hj : j < es.length) (hj2 : j < bs.length), (∃ dd pv kv, NodeAt w bs[j] (bl es[j].2) (ge es[j].2) dd pv kv) /\ bl es[j].2 < 65536 /\ ge es[j].2 < 4294967296) :
   Calls Tryz.prog 93 #[P b] w fun e w' => ∃ g, e = .returned (.slice (some ⟨g, 0, none⟩) 128 128) /\ Blk w' g 5 (bc (sealN (pad 128 (nhd blk gen 2 es.length ++ es.flatMap (kbl bl ge))))).toArray /\ w.heap.size <= g /\ Below w.heap.size w w' := by
 have hmk := zvt
 obtain ⟨i0, hi0, hz0⟩ := Option.map_eq_some_iff.1 zgj
 have HI0 := zaa hi0
 have HZ0 := zaa hz0
 clear hi0 hz0
 have hlen : es.length <= 58 := by
  have : 7 * es.length <= ksum es := by
   clear hn hs hkid hbs h1
   induction es with
   | nil => exact Nat.zero_le _
   | cons e es ih => simp only [ksum, List.map_cons, List.sum_cons, List.length_cons, ksz] at *; omega
  omega
 have hal := Blk.new w 5 (bc (pad 128 Z12)).toArray
 have hb0 : Below w.heap.size w (w.alloc (.cells (bc (pad 128 Z12)).toArray 5)) := (Below.refl _ _).alloc (Nat.le_refl _) _
 have hblt : b < w.heap.size := Blk.lt hn.node
 have c1' : (w.alloc (.cells (bc (pad 128 Z12)).toArray 5)).cell? ⟨b, 1, none⟩ = some (.int .u32 gen) := (hb0.cell hblt).trans (zab hn.node 1 rfl)
 have e1 : zdj (pad 128 Z12) 4 (le4 gen) = pad 128 ([0, 0, 0, 0] ++ le4 gen ++ [0, 0, 0, 0]) := zm0 [0, 0, 0, 0] [0, 0, 0, 0] (le4 gen) [0, 0, 0, 0] rfl
 have LEAF := zaa (fun W h => zec b blk gen es.length c2 d (.slice A1 0 c1) A2 W h h1 (by omega))
 have HKID := zaa hkid
 have HBS := zaa hbs
 have HAL := zaa hal
 have HB0 := zaa hb0
 have HN := zaa hn
 have E1 := zaa e1
 have HP := zaa (zg9 w.heap.size 4 8 124 (bc (pad 128 Z12)) gen _ hal.drew (by rw [zal]; decide) (by omega) (by omega) hg)
 have HC1 := zaa (fun w1 (ho : Only (· = w.heap.size) (w.alloc (.cells (bc (pad 128 Z12)).toArray 5)).drew w1) => (show w1.cell? ⟨b, 1, none⟩ = some (.int .u32 gen) from (ho.cell (p := ⟨b, 1, none⟩) (by show b < _; simp; omega) (by show ¬ b = _; omega)).trans c1'))
 clear hal hb0 hn e1 hkid hbs
 unfold P
 unfold P at LEAF
 go_enter Tryz.func93, Tryz.ntmps93
 go_wp2_with fail
 go_region_held3 (fun w' => w'.cell? ⟨b, 1, none⟩ = some (.int .u32 gen)) (first | go_keep | exact HC1.out _ ‹_›)
  ((go_at_call 134; ((with_reducible refine HP.out.mono ?_); rintro e w1 ⟨rfl, hb1, ho1⟩)))
 have hb1' : Blk w1 w.heap.size 5 (bc (pad 128 ([0, 0, 0, 0] ++ le4 gen ++ [0, 0, 0, 0]))).toArray := by rw [zhz, E1.out] at hb1; exact hb1
 have hbel1 : Below w.heap.size w w1 := HB0.out.drew.trans (ho1.to_below (by simp) fun x hx => by omega)
 have c0 : w1.cell? ⟨b, 0, none⟩ = some (.int .i64 blk) := (hbel1.cell hblt).trans (zab HN.out.node 0 rfl)
 have hne : ¬ b = w.heap.size := by omega
 have hne' : ¬ w.heap.size = b := by omega
 have y8 : w1.cell? ⟨w.heap.size, 8, none⟩ = some (.int .u8 0) := zab hb1' 8 rfl
 have y9 : w1.cell? ⟨w.heap.size, 9, none⟩ = some (.int .u8 0) := zab hb1' 9 rfl
 have z8 : w1.frozen? ⟨w.heap.size, 8, none⟩ = false := hb1'.frozen 8
 have z9 : w1.frozen? ⟨w.heap.size, 9, none⟩ = false := hb1'.frozen 9
 have HB1 := zaa hb1'
 have HBEL1 := zaa hbel1
 clear hb1 hb1' hbel1 ho1 HC1 HP hmk c1'
 go_upto_region 3 with fail
 go_cut [] (fun wx => Blk wx w.heap.size 5 (bc (pad 128 ([0, 0, 0, 0] ++ le4 gen ++ [by8 blk, by8 (blk / 256), 0, 0]))).toArray /\ Below w.heap.size w wx)
 case first =>
  go_region_held3 (fun w' => w'.cell? ⟨b, 0, none⟩ = some (.int .i64 blk)) (go_keep) (fail)
  all_goals
   go_wp2
   go_meet
   have h8 := Blk.byte (l := [0, 0, 0, 0] ++ le4 gen) (x := 0) (r := [0, 0, 0]) (n := blk) HB1.out (i := 8) rfl (v := IntKind.u8.wrap blk) (by rw [IntKind.wrap_u8]; omega)
   have h9 := Blk.byte (l := [0, 0, 0, 0] ++ le4 gen ++ [by8 blk]) (x := 0) (r := [0, 0]) (n := blk / 256) h8 (i := 9) rfl (v := IntKind.u8.wrap ((blk : Int) / 256)) (by rw [IntKind.wrap_u8]; omega)
   exact ⟨h9.drew, ((HBEL1.out.setCell (p := ⟨w.heap.size, 8, none⟩) (Nat.le_refl _) _).setCell (p := ⟨w.heap.size, 9, none⟩) (Nat.le_refl _) _).drew⟩
 case rest =>
 obtain ⟨hb2, hbel2⟩ := hcut
 have hn2 := HN.out.keep (Keep.of_below hbel2)
 have c4 : wc.cell? ⟨b, 4, none⟩ = some (.slice A2 es.length c2) := zab hn2.node 4 rfl
 have y10 : wc.cell? ⟨w.heap.size, 10, none⟩ = some (.int .u8 0) := zab hb2 10 rfl
 have y11 : wc.cell? ⟨w.heap.size, 11, none⟩ = some (.int .u8 0) := zab hb2 11 rfl
 have z10 : wc.frozen? ⟨w.heap.size, 10, none⟩ = false := hb2.frozen 10
 have z11 : wc.frozen? ⟨w.heap.size, 11, none⟩ = false := hb2.frozen 11
 have HB2 := zaa hb2
 have HBEL2 := zaa hbel2
 have HN2 := zaa hn2
 clear hb2 hbel2 hn2 c0 y8 y9 z8 z9
 go_wp2_with (go_at_call 81; refine (LEAF.out _ HN2.out.node).mono ?_; rintro e w' ⟨rfl, rfl⟩)
 go_loopw [3, 89] (fun s3 s wr => z2f bl ge es (nhd blk gen 2 es.length) w.heap.size w s3 s wr) (fun _ s _ => es.length - (intOf s).toNat)
 case atStart =>
  have h10 := Blk.byte (l := [0, 0, 0, 0] ++ le4 gen ++ [by8 blk, by8 (blk / 256)]) (x := 0) (r := [0]) (n := 2) HB2.out (i := 10) rfl (v := 2) rfl
  have h11 := Blk.byte (l := [0, 0, 0, 0] ++ le4 gen ++ [by8 blk, by8 (blk / 256), by8 2]) (x := 0) (r := []) (n := es.length) h10 (i := 11) rfl (v := es.length) (by omega)
  exact ⟨0, Nat.zero_le _, rfl, rfl, (by rw [List.take_zero, List.flatMap_nil, List.append_nil]; exact h11), (HBEL2.out.setCell (p := ⟨w.heap.size, 10, none⟩) (Nat.le_refl _) _).setCell (p := ⟨w.heap.size, 11, none⟩) (Nat.le_refl _) _⟩
 case round =>
  obtain ⟨k, hk, rfl, rfl, hbr, hbe⟩ := hrel
  by_cases hlt : k < es.length
  . obtain ⟨g, o, u, v, rfl, hu, hv, q1, q2, hgl⟩ := HN.out.ks.cells_at hbe hlt
    have hbl := HBS.out
    have hpe := zbv es bs k hlt (by omega)
    obtain ⟨⟨dd, pv, kv, hnk⟩, hkb, hkg⟩ := HKID.out k hlt (by omega)
    have hnk1 : NodeAt wr _ _ _ _ _ _ := hnk.below hbe hnk.lt
    obtain ⟨bc', hbc⟩ : ∃ y, y = bs[k]'(by omega) := ⟨_, rfl⟩
    rw [<- hbc] at hnk hnk1 hpe
    have e1 := hu.symm.trans hpe.1
    have e2 := hv.symm.trans hpe.2
    injection e1 with e1
    injection e2 with e2
    subst e1; subst e2
    obtain ⟨x, hx⟩ : ∃ x, x = es[k] := ⟨_, rfl⟩
    rw [<- hx] at q1 hkb hkg hnk hnk1
    have hst := zxk bl ge hlt
    rw [<- hx] at hst
    have hle := zpl bl ge es (k + 1)
    rw [hst, List.length_append, zzd] at hle
    obtain ⟨kb, hkbe⟩ : ∃ y, y = bl x.2 := ⟨_, rfl⟩
    obtain ⟨kg, hkge⟩ : ∃ y, y = ge x.2 := ⟨_, rfl⟩
    rw [<- hkbe] at hkb hnk hnk1
    rw [<- hkge] at hkg hnk hnk1
    have hcc : ∃ c2', es.length <= c2 /\ c2 <= maxLen /\ c2' = c2 := by
     obtain ⟨_, _, _, hv, e1, e2, _⟩ := HN.out.ks
     injection hv with _ _ e3
     subst e3
     exact ⟨_, e1, e2, rfl⟩
    obtain ⟨_, hc1, hc2, -⟩ := hcc
    unfold maxLen at hc2
    have hsz : x.1.size <= 116 := by unfold ksz at hle; omega
    have k0 : (0 : Int) <= (k : Int) := by omega
    have k1 : (k : Int) < (es.length : Int) := by omega
    have HST := zaa hst
    have HLE := zaa hle
    have HX := zaa hx
    have HBR := zaa hbr
    have HBE := zaa hbe
    have hnkl : bc' < w.heap.size := hnk.lt
    have HNK := zaa hnk1
    have HKB := zaa hkbe
    have HKG := zaa hkge
    clear hu hv hpe hst hle hx hbr hbe hnk hnk1 hkbe hkge hbc
    obtain ⟨L, hL⟩ : ∃ L, L = nhd blk gen 2 es.length ++ (es.take k).flatMap (kbl bl ge) := ⟨_, rfl⟩
    rw [<- hL] at HBR ⊢
    have hLl : L.length + ksz x <= 128 := by have := HLE.out; rw [hL, List.length_append, zfm]; omega
    have hLs : L.length + (7 + x.1.size) <= 128 := hLl
    have HL := zaa hL
    clear hL hLl
    obtain ⟨W1, hW1⟩ : ∃ W1, W1 = wr.alloc (.cells #[.string x.1, .pointer (some ⟨bc', 0, none⟩)] 139) := ⟨_, rfl⟩
    have hz1 : W1.heap.size = wr.heap.size + 1 := by rw [hW1]; simp
    have hq0 : Blk W1 wr.heap.size 139 #[.string x.1, .pointer (some ⟨bc', 0, none⟩)] := by rw [hW1]; exact Blk.new _ _ _
    have hgl2 : w.heap.size < wr.heap.size := HBR.out.lt
    have hnl : bc' < w.heap.size := hnkl
    have hbw1 : Below w.heap.size w W1 := by rw [hW1]; exact HBE.out.alloc HBE.out.size _
    have hnw : NodeAt W1 bc' kb kg dd pv kv := by rw [hW1]; exact HNK.out.alloc _
    have hbb : Blk W1 w.heap.size 5 (bc (pad 128 L)).toArray := by rw [hW1]; exact HBR.out.alloc _
    have s1 : W1.cell? ⟨wr.heap.size, 0, none⟩ = some (.string x.1) := zab hq0 0 rfl
    have s2 : W1.cell? ⟨wr.heap.size, 1, none⟩ = some (.pointer (some ⟨bc', 0, none⟩)) := zab hq0 1 rfl
    have s3 : W1.cell? ⟨bc', 0, none⟩ = some (.int .i64 kb) := zab hnw 0 rfl
    have s4 : W1.cell? ⟨bc', 1, none⟩ = some (.int .u32 kg) := zab hnw 1 rfl
    have hSS : ∀ a w' : World, Only (· = w.heap.size) a w' -> wr.heap.size < a.heap.size -> (a.cell? ⟨wr.heap.size, 0, none⟩ = some (.string x.1) /\ a.cell? ⟨wr.heap.size, 1, none⟩ = some (.pointer (some ⟨bc', 0, none⟩)) /\ a.cell? ⟨bc', 0, none⟩ = some (.int .i64 kb) /\ a.cell? ⟨bc', 1, none⟩ = some (.int .u32 kg)) ->
       w'.cell? ⟨wr.heap.size, 0, none⟩ = some (.string x.1) /\ w'.cell? ⟨wr.heap.size, 1, none⟩ = some (.pointer (some ⟨bc', 0, none⟩)) /\ w'.cell? ⟨bc', 0, none⟩ = some (.int .i64 kb) /\ w'.cell? ⟨bc', 1, none⟩ = some (.int .u32 kg) := fun a w' ho hl h =>
     ⟨(ho.cell (p := ⟨wr.heap.size, 0, none⟩) hl (by show ¬ wr.heap.size = w.heap.size; omega)).trans h.1, (ho.cell (p := ⟨wr.heap.size, 1, none⟩) hl (by show ¬ wr.heap.size = w.heap.size; omega)).trans h.2.1,
       (ho.cell (p := ⟨bc', 0, none⟩) (show bc' < _ by omega) (by show ¬ bc' = w.heap.size; omega)).trans h.2.2.1, (ho.cell (p := ⟨bc', 1, none⟩) (show bc' < _ by omega) (by show ¬ bc' = w.heap.size; omega)).trans h.2.2.2⟩
    have hb2 : Blk ((W1.alloc (.cells #[.int .u8 x.1.size] 5)).drew) W1.heap.size 5 (bc [by8 x.1.size]).toArray := by
     rw [z0w _ (by omega)]
     exact (Blk.new _ _ _).drew
    have hb3 : Blk ((W1.alloc (.cells #[.int .u8 x.1.size] 5)).drew) w.heap.size 5 (bc (pad 128 L)).toArray := by exact (hbb.alloc _).drew
    have hbel2 : Below W1.heap.size W1 ((W1.alloc (.cells #[.int .u8 x.1.size] 5)).drew) := by exact ((Below.refl W1.heap.size W1).alloc (Nat.le_refl _) _).drew
    have hz2 : wr.heap.size + 1 < ((W1.alloc (.cells #[.int .u8 x.1.size] 5)).drew).heap.size := by have := hb2.lt; omega
    have t0 : ((W1.alloc (.cells #[.int .u8 x.1.size] 5)).drew).cell? ⟨wr.heap.size, 0, none⟩ = some (.string x.1) /\ ((W1.alloc (.cells #[.int .u8 x.1.size] 5)).drew).cell? ⟨wr.heap.size, 1, none⟩ = some (.pointer (some ⟨bc', 0, none⟩)) /\ ((W1.alloc (.cells #[.int .u8 x.1.size] 5)).drew).cell? ⟨bc', 0, none⟩ = some (.int .i64 kb) /\ ((W1.alloc (.cells #[.int .u8 x.1.size] 5)).drew).cell? ⟨bc', 1, none⟩ = some (.int .u32 kg) :=
     ⟨(hbel2.cell (p := ⟨wr.heap.size, 0, none⟩) (by show wr.heap.size < _; omega)).trans s1, (hbel2.cell (p := ⟨wr.heap.size, 1, none⟩) (by show wr.heap.size < _; omega)).trans s2, (hbel2.cell (p := ⟨bc', 0, none⟩) (by show bc' < _; omega)).trans s3, (hbel2.cell (p := ⟨bc', 1, none⟩) (by show bc' < _; omega)).trans s4⟩
    have hx1 := zds x.1
    have hwr : IntKind.u8.wrap ((x.1.size : Nat) : Int) = ((x.1.size : Nat) : Int) := by rw [IntKind.wrap_u8]; omega
    have r1 : L.length + [by8 x.1.size].length <= 128 := by simp only [List.length_cons, List.length_nil]; omega
    have r2 : ∀ L3 : List UInt8, L3 = L ++ [by8 x.1.size] -> L3.length + (sb x.1).length <= 128 := by rintro L3 rfl; rw [List.length_append]; simp only [List.length_cons, List.length_nil]; omega
    have T0 := zaa t0
    have HSS := zaa hSS
    have R1 := zaa r1
    have R2 := zaa r2
    have HSRC := zaa (show Src Tryz.prog 1 77 (.slice (some ⟨W1.heap.size, 0, none⟩) 1 1) [by8 x.1.size].length (bc [by8 x.1.size]) _ from zm2 Tryz.underlying77 hb2)
    have HB3 := zaa hb3
    have HBW := zaa (hbw1.trans (hbel2.mono hbw1.size))
    have hbx := zaa hbw1
    clear r1 r2 hb2 hb3 hbw1 hbel2 t0 hSS hbb hnw hq0 hx1
    go_wp2_with fail
    rw [<- hW1]
    have HZ1 := zaa hz1
    clear hW1 hz1
    go_region_held3 (fun w' => w'.cell? ⟨wr.heap.size, 0, none⟩ = some (.string x.1) /\ w'.cell? ⟨wr.heap.size, 1, none⟩ = some (.pointer (some ⟨bc', 0, none⟩)) /\ w'.cell? ⟨bc', 0, none⟩ = some (.int .i64 kb) /\ w'.cell? ⟨bc', 1, none⟩ = some (.int .u32 kg)) (first | exact ⟨s1, s2, s3, s4⟩ | exact T0.out | assumption)
     (first
      | (
       refine zdt _ rfl _ _ _ _ (by rfl) 5 i0 Tryz.underlying77 HI0.out HZ0.out w.heap.size 128 L [by8 x.1.size] (by rfl) HB3.out (.slice (some ⟨W1.heap.size, 0, none⟩) 1 1) (by rfl) HSRC.out R1.out R1.out (fun w2 hb2 ho2 hs2 => ?_);
       have t1 := HSS.out _ _ ho2 (Nat.lt_of_succ_lt hz2) T0.out;
       obtain ⟨L3, hL3⟩ : ∃ L3, L3 = L ++ [by8 x.1.size] := ⟨_, rfl⟩;
       rw [<- hL3] at hb2;
       rw [<- hL3];
       have r2 := R2.out L3 hL3;
       have hlt2 : wr.heap.size < w2.heap.size := Nat.lt_of_lt_of_le (Nat.lt_of_succ_lt hz2) ho2.size;
       have HB4 := zaa hb2;
       have HO2 := zaa ho2;
       have HL3 := zaa hL3;
       clear hb2 ho2 hs2 hL3)
      | ((refine zdt _ rfl _ _ _ _ (by rfl) 5 i0 Tryz.underlying77 HI0.out HZ0.out w.heap.size 128 L3 (sb x.1) (by rfl) HB4.out _ (by rfl) (zm1 Tryz.underlying9 x.1 _) r2 r2 (fun w3 hb3 ho3 hs3 => ?_));
         have t2 := HSS.out _ _ ho3 hlt2 t1))
    obtain ⟨L4, hL4⟩ : ∃ L4, L4 = L3 ++ sb x.1 := ⟨_, rfl⟩
    have hL4l : L4.length = L3.length + (sb x.1).length := by rw [hL4, List.length_append]
    rw [<- hL4] at hb3
    rw [<- hL4l]
    have hl3 : L3.length = L.length + 1 := by rw [HL3.out, List.length_append]; rfl
    have hx1 := zds x.1
    have r3 : L4.length + [by8 kb, by8 (kb / 256), 0, 0, 0, 0].length <= 128 := by simp only [List.length_cons, List.length_nil]; omega
    have hbw3 : Below w.heap.size w w3 := by
     have hz := HBW.out.size
     exact ((HBW.out).trans (HO2.out.to_below hz fun y hy => by omega)).trans (ho3.to_below (Nat.le_trans hz HO2.out.size) fun y hy => by omega)
    have hlt3 : wr.heap.size < w3.heap.size := Nat.lt_of_lt_of_le hlt2 ho3.size
    have hb4 : Blk ((w3.alloc (.cells #[.int .u8 (IntKind.u8.wrap kb), .int .u8 (IntKind.u8.wrap ((kb : Int) / 256)), .int .u8 0, .int .u8 0, .int .u8 0, .int .u8 0] 5)).drew) w3.heap.size 5 (bc [by8 kb, by8 (kb / 256), 0, 0, 0, 0]).toArray := by
     rw [z0x]; exact (Blk.new _ _ _).drew
    have hb5 : Blk ((w3.alloc (.cells #[.int .u8 (IntKind.u8.wrap kb), .int .u8 (IntKind.u8.wrap ((kb : Int) / 256)), .int .u8 0, .int .u8 0, .int .u8 0, .int .u8 0] 5)).drew) w.heap.size 5 (bc (pad 128 L4)).toArray := (hb3.alloc _).drew
    have hbel4 : Below w3.heap.size w3 ((w3.alloc (.cells #[.int .u8 (IntKind.u8.wrap kb), .int .u8 (IntKind.u8.wrap ((kb : Int) / 256)), .int .u8 0, .int .u8 0, .int .u8 0, .int .u8 0] 5)).drew) := ((Below.refl _ _).alloc (Nat.le_refl _) _).drew
    have hz4 : wr.heap.size < ((w3.alloc (.cells #[.int .u8 (IntKind.u8.wrap kb), .int .u8 (IntKind.u8.wrap ((kb : Int) / 256)), .int .u8 0, .int .u8 0, .int .u8 0, .int .u8 0] 5)).drew).heap.size := Nat.lt_of_lt_of_le hlt3 hbel4.size
    have t3 : ((w3.alloc (.cells #[.int .u8 (IntKind.u8.wrap kb), .int .u8 (IntKind.u8.wrap ((kb : Int) / 256)), .int .u8 0, .int .u8 0, .int .u8 0, .int .u8 0] 5)).drew).cell? ⟨wr.heap.size, 0, none⟩ = some (.string x.1) /\ ((w3.alloc (.cells #[.int .u8 (IntKind.u8.wrap kb), .int .u8 (IntKind.u8.wrap ((kb : Int) / 256)), .int .u8 0, .int .u8 0, .int .u8 0, .int .u8 0] 5)).drew).cell? ⟨wr.heap.size, 1, none⟩ = some (.pointer (some ⟨bc', 0, none⟩)) /\ ((w3.alloc (.cells #[.int .u8 (IntKind.u8.wrap kb), .int .u8 (IntKind.u8.wrap ((kb : Int) / 256)), .int .u8 0, .int .u8 0, .int .u8 0, .int .u8 0] 5)).drew).cell? ⟨bc', 0, none⟩ = some (.int .i64 kb) /\ ((w3.alloc (.cells #[.int .u8 (IntKind.u8.wrap kb), .int .u8 (IntKind.u8.wrap ((kb : Int) / 256)), .int .u8 0, .int .u8 0, .int .u8 0, .int .u8 0] 5)).drew).cell? ⟨bc', 1, none⟩ = some (.int .u32 kg) :=
     ⟨(hbel4.cell (p := ⟨wr.heap.size, 0, none⟩) hlt3).trans t2.1, (hbel4.cell (p := ⟨wr.heap.size, 1, none⟩) hlt3).trans t2.2.1, (hbel4.cell (p := ⟨bc', 0, none⟩) (show bc' < _ by omega)).trans t2.2.2.1, (hbel4.cell (p := ⟨bc', 1, none⟩) (show bc' < _ by omega)).trans t2.2.2.2⟩
    have HSRC4 := zaa (show Src Tryz.prog 1 77 (.slice (some ⟨w3.heap.size, 0, none⟩) 6 6) [by8 kb, by8 (kb / 256), 0, 0, 0, 0].length (bc [by8 kb, by8 (kb / 256), 0, 0, 0, 0]) _ from zm2 Tryz.underlying77 hb4)
    have k4 : (4 : Int) <= (L4.length : Int) + 6 := by omega
    have R3 := zaa r3
    have HB5 := zaa hb5
    have T2 := zaa t2
    have T3 := zaa t3
    have HBW3 := zaa hbw3
    have HL4 := zaa hL4
    have hbw4 := zaa (hbw3.trans (hbel4.mono hbw3.size))
    clear hL4 hL4l hl3 hx1 r3 hb3 hb4 hb5 hbel4 t3 t2 t1 hbw3 ho3 hs3 r2 s1 s2 s3 s4
    go_wp2_with fail
    go_region_held3 (fun w' => w'.cell? ⟨wr.heap.size, 0, none⟩ = some (.string x.1) /\ w'.cell? ⟨wr.heap.size, 1, none⟩ = some (.pointer (some ⟨bc', 0, none⟩)) /\ w'.cell? ⟨bc', 0, none⟩ = some (.int .i64 kb) /\ w'.cell? ⟨bc', 1, none⟩ = some (.int .u32 kg)) (first | exact T2.out | exact T3.out | assumption)
     (first
      | (
       refine zdt _ rfl _ _ _ _ (by rfl) 5 i0 Tryz.underlying77 HI0.out HZ0.out w.heap.size 128 L4 [by8 kb, by8 (kb / 256), 0, 0, 0, 0] (by rfl) HB5.out (.slice (some ⟨w3.heap.size, 0, none⟩) 6 6) (by rfl) HSRC4.out R3.out R3.out (fun w4 hb4 ho4 hs4 => ?_);
       have t5 := HSS.out _ _ ho4 hz4 T3.out))
    obtain ⟨M, hM⟩ : ∃ M, M = L4.length + 2 := ⟨_, rfl⟩
    have hM6 : L4.length + 6 = M + 4 := by omega
    rw [hM6]
    have hMr : M + 4 <= 128 := by have : L4.length + 6 <= 128 := R3.out; omega
    have hsplM : spl (bc (pad 128 (L4 ++ [by8 kb, by8 (kb / 256), 0, 0, 0, 0]))) M (bc (le4 kg)) = bc (pad 128 (L4 ++ [by8 kb, by8 (kb / 256)] ++ le4 kg)) := by
     rw [zhz]
     have := zm0 (L4 ++ [by8 kb, by8 (kb / 256)]) [0, 0, 0, 0] (le4 kg) [] rfl
     rw [List.append_nil, List.append_nil, List.append_assoc] at this
     have hl : (L4 ++ [by8 kb, by8 (kb / 256)]).length = M := by rw [hM, List.length_append]; rfl
     rw [hl] at this
     exact congrArg bc this
    have hpl : (bc (pad 128 (L4 ++ [by8 kb, by8 (kb / 256), 0, 0, 0, 0]))).length = 128 := by rw [zal, zb5]; rw [List.length_append]; exact R3.out
    have HP := zaa (zg9 w.heap.size M 4 (128 - M) (bc (pad 128 (L4 ++ [by8 kb, by8 (kb / 256), 0, 0, 0, 0]))) kg w4.drew hb4.drew (by rw [hpl]; exact hMr) (by omega) (by omega) hkg)
    rw [hsplM] at HP
    have m0 : (0 : Int) <= (M : Int) := by omega
    have m1 : (M : Int) + 4 <= 128 := by omega
    have m2 : (M : Int) <= (M : Int) + 4 := by omega
    have m3 : (M : Int) < 128 := by omega
    have m4 : ¬ M = 128 := by omega
    have m5 : ¬ 128 = M := by omega
    have mw : IntKind.i64.wrap (M : Int) = (M : Int) := by rw [IntKind.wrap_i64]; omega
    have HM := zaa hM
    have T5 := zaa t5
    have HBW4 := zaa (hbw4.out.trans (ho4.to_below hbw4.out.size fun y hy => by omega))
    have hz5 : wr.heap.size < w4.heap.size := Nat.lt_of_lt_of_le hz4 ho4.size
    clear hM hM6 hsplM hpl hb4 ho4 hs4 t5 k4
    go_wp2_with fail
    go_region_held3 (fun w' => w'.cell? ⟨wr.heap.size, 0, none⟩ = some (.string x.1) /\ w'.cell? ⟨wr.heap.size, 1, none⟩ = some (.pointer (some ⟨bc', 0, none⟩)) /\ w'.cell? ⟨bc', 0, none⟩ = some (.int .i64 kb) /\ w'.cell? ⟨bc', 1, none⟩ = some (.int .u32 kg)) (first | exact T5.out | assumption)
     ((go_at_call 134; ((with_reducible refine HP.out.mono ?_); rintro e w5 ⟨rfl, hb5, ho5⟩; have t6 := HSS.out _ _ ho5 hz5 T5.out)))
    go_wp2
    have hfin : nhd blk gen 2 es.length ++ (es.take (k + 1)).flatMap (kbl bl ge) = L4 ++ [by8 kb, by8 (kb / 256)] ++ le4 kg := by
     rw [HST.out, HL4.out, HL3.out, HL.out, HKB.out, HKG.out]
     unfold kbl kby
     simp
    go_roundw
    case rel =>
     refine ⟨k + 1, by omega, by go_num, ?_, ?_, ?_⟩
     . rw [hfin, List.length_append, List.length_append, HM.out]; rfl
     . rw [hfin]; exact hb5
     . exact HBW4.out.drew.trans (ho5.to_below HBW4.out.size fun y hy => by omega)
    case measure => simp [intOf]; omega
  . have k1 : ¬ (k : Int) < (es.length : Int) := by omega
    obtain rfl : k = es.length := by omega
    have hle := zpl bl ge es es.length
    rw [List.take_length] at hbr hle ⊢
    obtain ⟨L, hL⟩ : ∃ L, L = nhd blk gen 2 es.length ++ es.flatMap (kbl bl ge) := ⟨_, rfl⟩
    have hLl : L.length <= 128 := by rw [hL, List.length_append, zfm]; omega
    rw [<- hL] at hbr ⊢
    have hLi : (L.length : Int) <= 128 := by omega
    have hpl : (pad 128 L).length = 128 := zb5 _ _ hLl
    have HS := zaa (fun W hb => zkm w.heap.size 128 (pad 128 L) W hb hpl (by omega) (by omega))
    have HBR := zaa hbr
    have HBE := zaa hbe
    have HLL := zaa hL
    clear hbr hbe hL hle hpl
    go_wp2_with (go_at_call 135; refine (HS.out _ HBR.out).mono ?_; rintro e w5 ⟨rfl, hb5, ho5⟩)
    go_ret
    exact ⟨_, rfl, by rw [HLL.out] at hb5; exact hb5, Nat.le_refl _, HBE.out.trans (ho5.to_below HBE.out.size fun y hy => by omega)⟩
end
end Go.Proofs.YtemondlgcmpbbaaGreatDoor
