/- Pb Wl Wm Wn: merged. -/
import Derived.Test.YtemondlgcmpbbaaGreatDoorMP12
import Derived.Test.YtemondlgcmpbbaaGreatDoorMP13
import Derived.Test.YtemondlgcmpbbaaGreatDoorMP14
import Derived.Test.YtemondlgcmpbbaaGreatDoorMP11
import Derived.Deep.DeepCutAuto
namespace Go.Proofs.YtemondlgcmpbbaaGreatDoor
open Go.RowKit
set_option maxRecDepth 100000
section
variable {K : Type} (bl ge : K -> Nat)
def kbR (es : List (Str × K)) (k : Nat) : List UInt8 := (es.drop k).flatMap (kbl bl ge) ++ List.replicate (116 - ksum es) 0
theorem zk2 (es : List (Str × K)) : (es.flatMap (kbl bl ge)).length = ksum es := zkz bl ge es
theorem zxl (es : List (Str × K)) : pad 116 (es.flatMap (kbl bl ge)) = kbR bl ge es 0 := by unfold pad kbR; rw [zk2, List.drop_zero]
theorem zxm (es : List (Str × K)) (k : Nat) (h : k < es.length) : kbR bl ge es k = [by8 es[k].1.size] ++ (sb es[k].1 ++ ((by8 (bl es[k].2) :: by8 (bl es[k].2 / 256) :: le4 (ge es[k].2)) ++ kbR bl ge es (k + 1))) := by
 unfold kbR
 rw [List.drop_eq_getElem_cons h, List.flatMap_cons]
 unfold kbl kby
 simp
theorem zze (es : List (Str × K)) (k : Nat) (hes : ksum es <= 116) : (kbR bl ge es k).length <= 116 := by
 unfold kbR
 rw [List.length_append, List.length_replicate, zk2]
 have : ksum (es.drop k) <= ksum es := by
  have := congrArg ksum (List.take_append_drop k es)
  unfold ksum at this ⊢
  rw [List.map_append, List.sum_append] at this
  omega
 omega
theorem zk3 : ∀ (es : List (Str × K)), 7 * es.length <= ksum es
 | [] => Nat.le_refl _
 | e :: es => by
   have := zk3 es
   unfold ksum at *
   have h2 : 7 <= ksz e := by unfold ksz; omega
   simp only [List.map_cons, List.sum_cons, List.length_cons]
   omega
theorem zvv {es : List (Str × K)} {bs : List Nat} {k n : Nat} (h : k < es.length) (hb : bs.length = k) : kcells (es.take (k + 1)) (bs ++ [n]) = kcells (es.take k) bs ++ [.string es[k].1, P n] := by
 rw [List.take_succ_eq_append_getElem h, zf8 _ _ _ _ (by rw [List.length_take, Nat.min_eq_left (by omega), hb])]
 rfl
theorem SlU.at_row {w : World} {g o n c : Nat} {xs : List UInt8} {cs : Array Value} (h : SlU w (some ⟨g, o, none⟩) n c xs) (hb : Blk w g 5 cs) {j : Nat} {x : UInt8} (hj : xs[j]? = some x) : cs[o + j]? = some (.int .u8 x.toNat) := by
 have hlt : j < n := by rw [<- h.1]; exact (List.getElem?_eq_some_iff.1 hj).1
 obtain ⟨g', o', cur, hA, hg, hx⟩ := h.2.2.2 (by omega)
 injection hA with hA
 injection hA with e1 e2
 subst e1; subst e2
 have := hx j (.int .u8 x.toNat) (zyk hj)
 unfold Blk at hg hb
 rw [hb] at hg
 injection hg with hg
 injection hg with hg
 exact hg ▸ this
def zou (w : World) (B : Nat) (es : List (Str × K)) (bs : List Nat) : Prop := ∀ j (hj : j < bs.length) (hj2 : j < es.length), B < bs[j] /\ NodeAt w bs[j] (bl es[j].2) (ge es[j].2) false (.slice none 0 0) (.slice none 0 0)
def z2g (es : List (Str × K)) (blk gen g : Nat) (B : List UInt8) (w : World) (i : Value) (wr : World) : Prop :=
 ∃ (k o cap : Nat) (kv : Value) (bs : List Nat), k <= es.length /\ i = .int .i64 k /\ NodeAt wr (w.heap.size + 1) blk gen false (.slice none 0 0) kv /\ bs.length = k /\ wr.ownsRow w.heap.size 139 2 kv k (kcells (es.take k) bs) /\ zou bl ge wr (w.heap.size + 1) es bs /\ CuAt wr (w.heap.size + 1 + 1) g o (kbR bl ge es k).length cap (kbR bl ge es k) /\ cap <= 128 /\ Blk wr g 5 (bc B).toArray /\ Below w.heap.size w wr
set_option maxHeartbeats 4000000 in
theorem zpn (g blk gen : Nat) (es : List (Str × K)) (w : World) (hb : Blk w g 5 (bc (zfo blk gen 2 es.length (es.flatMap (kbl bl ge)))).toArray) (hes : ksum es <= 116) (h1 : 1 <= es.length) (hok : ∀ e ∈ es, e.1.size <= 8 /\ bl e.2 < 65536 /\ ge e.2 < 4294967296) (hbk : blk < 65536) (hgen : gen < 4294967296) :
   Calls Tryz.prog 173 #[.slice (some ⟨g, 0, none⟩) 128 128, .agg #[.int .i64 blk, .int .u32 gen]] w fun e w' => ∃ b kv bs, e = .returned (.tuple #[P b, .bool true]) /\ w.heap.size <= b /\ NodeAt w' b blk gen false (.slice none 0 0) kv /\ bs.length = es.length /\ w'.ownsRow w.heap.size 139 2 kv es.length (kcells es bs) /\ zou bl ge w' b es bs /\ Below w.heap.size w w' := by
 obtain ⟨hh, hrest⟩ := zvr hb (by rw [zk2]; exact hes) hgen
 obtain ⟨B, hB⟩ : ∃ B, B = zfo blk gen 2 es.length (es.flatMap (kbl bl ge)) := ⟨_, rfl⟩
 rw [<- hB] at hh hrest
 clear hB hb
 have hor := zpj blk hbk
 have wb1 : IntKind.i64.wrap ((blk : Int) % 256) = (blk : Int) % 256 := by rw [IntKind.wrap_i64]; omega
 have wb2 : IntKind.i64.wrap ((blk : Int) / 256 % 256) = (blk : Int) / 256 % 256 := by rw [IntKind.wrap_i64]; omega
 have wb3 : IntKind.i64.wrap ((blk : Int) / 256 % 256 * 256) = (blk : Int) / 256 % 256 * 256 := by rw [IntKind.wrap_i64]; omega
 rw [wb1, wb2, wb3] at hor
 have c8 := hh.cell hh.b8
 have c9 := hh.cell hh.b9
 have c10 := hh.cell hh.b10
 have c11 := hh.cell hh.b11
 rw [zdx] at c8 c9 c10 c11
 have hln : es.length < 256 := by
  have := zk3 es
  omega
 rw [show 2 % 256 = 2 from rfl] at c10
 rw [Nat.mod_eq_of_lt hln] at c11
 have c8' := fun o => zai o c8
 have c9' := fun o => zai o c9
 have c10' := fun o => zai o c10
 have c11' := fun o => zai o c11
 have hs := SlU.whole hh.row hh.len (by omega)
 have hbox : Below w.heap.size w (w.alloc (.cells #[.int .i64 blk, .int .u32 gen] 134)) := (Below.refl _ _).alloc (Nat.le_refl _) _
 have HSL := zaa (fun k => zgd (some ⟨g, 0, none⟩) 128 128 B ((w.alloc (.cells #[.int .i64 blk, .int .u32 gen] 134)).drewN k) (hs.below (zad hbox k)) (by omega) (by omega))
 rw [hh.seal_] at HSL
 have ht := hs.tail 4 (by omega) (by omega)
 have hA : (some (⟨g, 0, none⟩ : Addr)).map (·.add 4) = some ⟨g, 4, none⟩ := rfl
 rw [hA] at ht
 have HG := zaa (fun k => zha (some ⟨g, 4, none⟩) 124 124 (B.drop 4) ((w.alloc (.cells #[.int .i64 blk, .int .u32 gen] 134)).drewN k) (ht.below (zad hbox k)) (by omega) (by omega))
 rw [hh.gen_] at HG
 have HH := zaa hh
 have HRE := zaa hrest
 have HES := zaa hes
 have HOK := zaa hok
 have HS := zaa hs
 clear hh hrest hes hok hs hbox ht hA
 go_enter Tryz.func173, Tryz.ntmps173
 go_wp2
 go_quiet (first | ((go_at_call 194; exact zep (HSL.out _))) | ((go_at_call 195; exact zep (HG.out _))))
 go_upto_region 5 with fail
 obtain ⟨W1, hW1⟩ : ∃ W1, W1 = (((w.alloc (.cells #[.int .i64 blk, .int .u32 gen] 134)).drewN nq).alloc (.cells #[.int .i64 blk, .int .u32 gen, .bool false, .slice none 0 0, .slice none 0 0] 137)).alloc (.cells #[.slice (some ⟨g, 12, none⟩) 116 116, .bool false] 288) := ⟨_, rfl⟩
 rw [<- hW1]
 have hbel : Below w.heap.size w W1 := by
  rw [hW1]
  exact ((zad ((Below.refl _ _).alloc (Nat.le_refl _) _) nq).alloc (by simp) _).alloc (by simp; omega) _
 have hnode : NodeAt W1 (w.heap.size + 1) blk gen false (.slice none 0 0) (.slice none 0 0) := by
  rw [hW1]
  have := (Blk.new ((w.alloc (.cells #[.int .i64 blk, .int .u32 gen] 134)).drewN nq) 137 #[.int .i64 blk, .int .u32 gen, .bool false, .slice none 0 0, .slice none 0 0]).alloc (.cells #[.slice (some ⟨g, 12, none⟩) 116 116, .bool false] 288)
  unfold NodeAt
  simpa using this
 have hcur : Blk W1 (w.heap.size + 1 + 1) 288 #[.slice (some ⟨g, 12, none⟩) 116 116, .bool false] := by
  rw [hW1]
  have := Blk.new (((w.alloc (.cells #[.int .i64 blk, .int .u32 gen] 134)).drewN nq).alloc (.cells #[.int .i64 blk, .int .u32 gen, .bool false, .slice none 0 0, .slice none 0 0] 137)) 288 #[.slice (some ⟨g, 12, none⟩) 116 116, .bool false]
  simpa using this
 have hrow := HH.out.row.below hbel HH.out.row.lt
 have hsl : SlU W1 (some ⟨g, 12, none⟩) 116 116 (kbR bl ge es 0) := by
  have := (HS.out.tail 12 (by omega) (by omega)).below hbel
  have hA : (some (⟨g, 0, none⟩ : Addr)).map (·.add 12) = some ⟨g, 12, none⟩ := rfl
  rw [hA, HRE.out, zxl] at this
  exact this
 have d11 : W1.cell? ⟨g, 11, none⟩ = some (.int .u8 es.length) := (hbel.cell HH.out.row.lt).trans c11
 have hl0 : (kbR bl ge es 0).length = 116 := hsl.1
 have HB1 := zaa hbel
 have HN1 := zaa hnode
 have HCU := zaa (show CuAt W1 (w.heap.size + 1 + 1) g 12 (kbR bl ge es 0).length 116 (kbR bl ge es 0) from by rw [hl0]; exact ⟨hcur, hsl⟩)
 have HR1 := zaa hrow
 obtain ⟨i0, hi0, hz0, hz1, hz2⟩ := info_parts zej
 have I0 := zaa hi0
 have Z0 := zaa hz0
 have Z1 := zaa hz1
 have Z2 := zaa hz2
 clear hW1 hbel hnode hcur hrow hsl hl0 c8 c9 c10 c11 c8' c9' c10' c11' hor wb1 wb2 wb3 HS HSL HG hi0 hz0 hz1 hz2 hbk hgen
 go_wp2
 go_loopw [71] (fun i wr => z2g bl ge es blk gen g B w i wr) (fun i _ => es.length - (intOf i).toNat)
 case atStart => exact ⟨0, 12, 116, _, [], Nat.zero_le _, rfl, HN1.out, rfl, World.ownsRow_nil _ _ _ _, (fun j hj => by simp at hj), HCU.out, by omega, HR1.out, HB1.out⟩
 case round =>
  obtain ⟨k, o, cap, kv, bs, hk, rfl, hnd, hbs, hown, hstb, hcu, hcap, hrow, hbr⟩ := hrel
  by_cases hlt : k < es.length
  . have k1 : (k : Int) < (es.length : Int) := by omega
    have hlen := zze bl ge es k HES.out
    have hst := zxm bl ge es k hlt
    have hx := HOK.out es[k] (List.getElem_mem hlt)
    have hkc : ∀ n, kcells (es.take (k + 1)) (bs ++ [n]) = kcells (es.take k) bs ++ [.string es[k].1, P n] := fun n => zvv hlt hbs
    have hsn : ∀ (w' : World) (n : Nat), zou bl ge w' (w.heap.size + 1) es bs -> w.heap.size + 1 < n -> NodeAt w' n (bl es[k].2) (ge es[k].2) false (.slice none 0 0) (.slice none 0 0) -> zou bl ge w' (w.heap.size + 1) es (bs ++ [n]) := by
     intro w' n hs h1 h2 j hj hj2
     rw [List.length_append] at hj
     by_cases hjk : j < bs.length
     . rw [List.getElem_append_left hjk]
       exact hs j hjk hj2
     . obtain rfl : j = k := by simp only [List.length_cons, List.length_nil] at hj; omega
       rw [List.getElem_append_right (by omega)]
       simp only [hbs, Nat.sub_self, List.getElem_cons_zero]
       exact ⟨h1, h2⟩
    obtain ⟨x, hxe⟩ : ∃ x, x = es[k] := ⟨_, rfl⟩
    simp only [<- hxe] at hst hx hkc hsn
    obtain ⟨hx8, hxb, hxg⟩ := hx
    obtain ⟨bv, hbv⟩ : ∃ bv, bv = bl x.2 := ⟨_, rfl⟩
    obtain ⟨gv, hgv⟩ : ∃ gv, gv = ge x.2 := ⟨_, rfl⟩
    rw [<- hbv] at hst hxb
    rw [<- hgv] at hst hxg
    simp only [<- hbv, <- hgv] at hsn
    obtain ⟨R, hR⟩ : ∃ R, R = kbR bl ge es (k + 1) := ⟨_, rfl⟩
    rw [<- hR] at hst
    have d10 : wr.cell? ⟨g, 10, none⟩ = some (.int .u8 2) := by
     have := (HH.out.cell HH.out.b10)
     rw [zdx] at this
     exact (hbr.cell HH.out.row.lt).trans this
    have sbl1 := zds x.1
    have l6 : (by8 bv :: by8 (bv / 256) :: le4 gv).length = 6 := rfl
    obtain ⟨L6, hL6⟩ : ∃ L6, L6 = by8 bv :: by8 (bv / 256) :: le4 gv := ⟨_, rfl⟩
    rw [<- hL6] at hst l6
    have hl2 : (kbR bl ge es k).length = 1 + (x.1.size + (6 + R.length)) := by rw [hst]; simp only [List.length_append, List.length_cons, List.length_nil, zds, l6]
    have hcu0 : CuAt wr (w.heap.size + 1 + 1) g o (1 + (x.1.size + (6 + R.length))) cap ([by8 x.1.size] ++ (sb x.1 ++ (L6 ++ R))) := by
     rw [hl2, hst] at hcu
     exact hcu
    rw [hl2] at hlen
    have r2 : ((x.1.size : Nat) : Int) <= 8 := by omega
    have HT := zaa (zfn (w.heap.size + 1 + 1) g o cap 1 [by8 x.1.size] (sb x.1 ++ (L6 ++ R)) wr rfl (by rw [List.length_append, List.length_append, sbl1, l6]; exact hcu0) (by rw [List.length_append, List.length_append, sbl1, l6]; omega) (by omega))
    obtain ⟨o1, ho1⟩ : ∃ o1, o1 = adv o cap 1 := ⟨_, rfl⟩
    rw [<- ho1] at HT
    have hcz := hcu.1.lt
    have hcn : ∀ y cs, Blk wr y 139 cs -> ¬ y = w.heap.size + 1 + 1 := fun y cs hy e => Blk.ne_ hy hcu.1 (by decide) e
    have hsn2 : ∀ y cs, Blk wr y 137 cs -> ¬ y = w.heap.size + 1 + 1 := fun y cs hy e => Blk.ne_ hy hcu.1 (by decide) e
    have hgn : ¬ g = w.heap.size + 1 + 1 := fun e => Blk.ne_ hrow hcu.1 (by decide) e
    have vb1 : IntKind.i64.wrap ((bv : Int) % 256) = (bv : Int) % 256 := by rw [IntKind.wrap_i64]; omega
    have vb2 : IntKind.i64.wrap ((bv : Int) / 256 % 256) = (bv : Int) / 256 % 256 := by rw [IntKind.wrap_i64]; omega
    have vb3 : IntKind.i64.wrap ((bv : Int) / 256 % 256 * 256) = (bv : Int) / 256 % 256 * 256 := by rw [IntKind.wrap_i64]; omega
    have vor := zpj bv hxb
    rw [vb1, vb2, vb3] at vor
    have VOR := zaa (And.intro vb1 (And.intro vb2 (And.intro vb3 vor)))
    have HCN := zaa hcn
    have HSN2 := zaa hsn2
    have HCB := zaa hcu.1
    have HGN := zaa hgn
    have HKC := zaa hkc
    have HSN := zaa hsn
    have HX := zaa hxe
    have HBV := zaa (And.intro hbv hgv)
    have HR := zaa hR
    have HOWN := zaa hown
    have HND := zaa hnd
    have HROW := zaa hrow
    have HBR := zaa hbr
    have HSB := zaa sbl1
    have HSTB := zaa hstb
    have HBS := zaa hbs
    have HL6 := zaa hL6
    have HG4 := zaa (zcw gv hxg [])
    clear hkc hsn hst hxe hown hnd hrow hbr hcu ho1 hcn hgn hcu0 hl2 hR sbl1 hstb hbv hgv hbs hL6 vb1 vb2 vb3 vor hsn2
    go_wp2_with (first
     | (go_at_call 196; go_loud (
        refine HT.out.mono ?_; rintro e w2 ⟨rfl, hs1, hc2, ho1⟩
        have l0 := zab (HROW.out.only ho1 HGN.out) (o + 0) (hs1.at_row (HROW.out.only ho1 HGN.out) (j := 0) rfl)
        rw [zdx, Nat.mod_eq_of_lt (by omega), Nat.add_zero] at l0
        have HT2 := zaa (zfn (w.heap.size + 1 + 1) g o1 (cap - 1) x.1.size (sb x.1) (L6 ++ R) w2 HSB.out (by rw [List.length_append, HSB.out] at hc2; exact hc2) (by rw [List.length_append, l6]; omega) (by omega))
        have HO1 := zaa ho1
        clear HT hs1 hc2 ho1))
     | (go_at_call 196; go_loud (
        refine HT2.out.mono ?_; rintro e w3 ⟨rfl, hs2, hc3, ho2⟩
        have CV := zk0 hs2
        obtain ⟨o3, ho3⟩ : ∃ o3, o3 = adv o1 (cap - 1) x.1.size := ⟨_, rfl⟩
        obtain ⟨c3, hc3e⟩ : ∃ c3, c3 = cap - 1 - x.1.size := ⟨_, rfl⟩
        rw [<- ho3, <- hc3e] at hc3
        have hcc : c3 <= 128 := by omega
        have HT3 := zaa (zfn (w.heap.size + 1 + 1) g o3 c3 6 L6 R w3 l6 (by rw [List.length_append, l6] at hc3; exact hc3) (by omega) (by omega))
        have HO2 := zaa ho2
        clear HT2 hs2 hc3 ho2 ho3 hc3e))
     | (go_at_call 196; go_loud (
        refine HT3.out.mono ?_; rintro e w4 ⟨rfl, hs3, hc4, ho3⟩
        have HO3 := zaa ho3
        have HS3 := zaa hs3
        have HC4 := zaa hc4
        clear HT3 hs3 hc4 ho3)))
    obtain ⟨W4, hW4⟩ : ∃ W4, W4 = w4.drew := ⟨_, rfl⟩
    have hO4 : Only (· = w.heap.size + 1 + 1) wr W4 := by rw [hW4]; exact ((HO1.out.trans HO2.out).trans HO3.out).drew
    have hd4 : Below w4.heap.size w4 W4 := by rw [hW4]; exact (Below.refl _ _).drew
    have hS0 : W4.cell? ⟨w.heap.size + 1, 4, none⟩ = some kv /\ Blk W4 g 5 (bc B).toArray := ⟨zab (HND.out.only hO4 (by omega)) 4 rfl, HROW.out.only hO4 HGN.out⟩
    have hz4 : wr.heap.size <= W4.heap.size := hO4.size
    have hs4 := HS3.out.below hd4
    have q0 := hs4.at_row hS0.2 (j := 0) (x := by8 bv) (by rw [HL6.out]; rfl)
    have q1 := hs4.at_row hS0.2 (j := 1) (x := by8 (bv / 256)) (by rw [HL6.out]; rfl)
    rw [zdx, Nat.add_zero] at q0
    rw [zdx] at q1
    have hc6 := hs4.2.1
    have ht4 := hs4.tail 2 (by omega) (by omega)
    have hA2 : (some (⟨g, o3, none⟩ : Addr)).map (·.add 2) = some ⟨g, o3 + 2, none⟩ := rfl
    rw [hA2, show L6.drop 2 = le4 gv ++ [] by rw [HL6.out]; rfl] at ht4
    have HG := zha (some ⟨g, o3 + 2, none⟩) (6 - 2) (c3 - 2) (le4 gv ++ []) W4 ht4 (by omega) (by omega)
    rw [HG4.out] at HG
    have HG := zaa HG
    have HC4' := zaa (HC4.out.below hd4)
    have n2 : ¬ c3 = 2 := by omega
    have n6 : (6 : Int) <= (c3 : Int) := by omega
    obtain ⟨vb1, vb2, vb3, vor⟩ := VOR.out
    have HO4 := zaa hO4
    have Q0 := zaa q0
    have Q1 := zaa q1
    clear hO4 hd4 hs4 ht4 hA2 q0 q1
    refine zgz (fun w' => w'.cell? ⟨w.heap.size + 1, 4, none⟩ = some kv /\ Blk w' g 5 (bc B).toArray) (fun _ => True) #[true, true, true, true, true, true, true, true, true, true, true, true, true, true, true, true, true, true, true, true, true, true, true, true, true, false, false, false] (by kernel_rfl) (by rw [<- hW4]; exact hS0) ?_
    rw [<- hW4]
    intro _
    refine zaq 0 (.pointer (some ⟨w.heap.size + 1, 0, none⟩)) (some 128) rfl rfl (.inl ⟨rfl, fun w' hSw => by go_simp⟩) hS0 ?_
    simp only [Act.put, n1, n3]
    refine zaq 1 (.pointer (some ⟨w.heap.size + 1, 0, none⟩)) (some 129) rfl rfl (.inl ⟨rfl, fun w' hSw => by go_simp⟩) hS0 ?_
    simp only [Act.put, n1, n3]
    refine zaq 2 (.pointer (some ⟨w.heap.size + 1, 0, none⟩)) (some 130) rfl rfl (.inl ⟨rfl, fun w' hSw => by go_simp⟩) hS0 ?_
    simp only [Act.put, n1, n3]
    refine zaq 3 (.pointer (some ⟨w.heap.size + 1, 4, none⟩)) (some 131) rfl rfl (.inl ⟨rfl, fun w' hSw => by go_simp⟩) hS0 ?_
    simp only [Act.put, n1, n3]
    refine zaq 4 kv (some 132) rfl rfl (.inl ⟨rfl, fun w' hSw => by have s1 := hSw.1; clear hSw; go_simp⟩) hS0 ?_
    simp only [Act.put, n1, n3]
    refine zaq 5 (.string x.1) (some 133) rfl rfl (.inl ⟨rfl, fun w' hSw => by go_simp⟩) hS0 ?_
    simp only [Act.put, n1, n3]
    refine zaq 6 (.slice (some ⟨g, o3, none⟩) 6 c3) (some 134) rfl rfl (.inl ⟨rfl, fun w' hSw => by go_simp⟩) hS0 ?_
    simp only [Act.put, n1, n3]
    refine zaq 7 (.pointer (some ⟨g, o3, none⟩)) (some 135) rfl rfl (.inl ⟨rfl, fun w' hSw => by go_simp⟩) hS0 ?_
    simp only [Act.put, n1, n3]
    refine zaq 8 (.int .u8 ((bv : Int) % 256)) (some 136) rfl rfl (.inl ⟨rfl, fun w' hSw => by have s1 := zab hSw.2 o3 Q0.out; clear hSw; go_simp⟩) hS0 ?_
    simp only [Act.put, n1, n3]
    refine zaq 9 (.int .i64 ((bv : Int) % 256)) (some 137) rfl rfl (.inl ⟨rfl, fun w' hSw => by clear hSw; go_simp⟩) hS0 ?_
    simp only [Act.put, n1, n3]
    refine zaq 10 (.slice (some ⟨g, o3, none⟩) 6 c3) (some 138) rfl rfl (.inl ⟨rfl, fun w' hSw => by go_simp⟩) hS0 ?_
    simp only [Act.put, n1, n3]
    refine zaq 11 (.pointer (some ⟨g, o3 + 1, none⟩)) (some 139) rfl rfl (.inl ⟨rfl, fun w' hSw => by go_simp⟩) hS0 ?_
    simp only [Act.put, n1, n3]
    refine zaq 12 (.int .u8 ((bv : Int) / 256 % 256)) (some 140) rfl rfl (.inl ⟨rfl, fun w' hSw => by have s1 := zab hSw.2 (o3 + 1) Q1.out; clear hSw; go_simp⟩) hS0 ?_
    simp only [Act.put, n1, n3]
    refine zaq 13 (.int .i64 ((bv : Int) / 256 % 256)) (some 141) rfl rfl (.inl ⟨rfl, fun w' hSw => by clear hSw; go_simp⟩) hS0 ?_
    simp only [Act.put, n1, n3]
    refine zaq 14 (.int .i64 ((bv : Int) / 256 % 256 * 256)) (some 142) rfl rfl (.inl ⟨rfl, fun w' hSw => by clear hSw; go_simp⟩) hS0 ?_
    simp only [Act.put, n1, n3]
    refine zaq 15 (.int .i64 bv) (some 143) rfl rfl (.inl ⟨rfl, fun w' hSw => by clear hSw; go_simp⟩) hS0 ?_
    simp only [Act.put, n1, n3]
    refine zaq 16 (.slice (some ⟨g, o3, none⟩) 6 c3) (some 144) rfl rfl (.inl ⟨rfl, fun w' hSw => by go_simp⟩) hS0 ?_
    simp only [Act.put, n1, n3]
    refine zaq 17 (.slice (some ⟨g, o3 + 2, none⟩) 4 (c3 - 2)) (some 145) rfl rfl (.inl ⟨rfl, fun w' hSw => by clear hSw; go_simp⟩) hS0 ?_
    simp only [Act.put, n1, n3]
    refine zgy (i := 18) (f := 195) (some 146) (by kernel_rfl) rfl rfl rfl (by first | (go_simp; done) | (go_simp; rfl)) (HG.out) ?_
    rintro e w5 ⟨rfl, q5, hq5⟩
    have hO5 : Only (fun _ => False) W4 w5 := by rw [hq5]; exact (Only.refl _ _).drewN _
    have hS5 : w5.cell? ⟨w.heap.size + 1, 4, none⟩ = some kv /\ Blk w5 g 5 (bc B).toArray := ⟨(hO5.cell (p := ⟨w.heap.size + 1, 4, none⟩) (show w.heap.size + 1 < W4.heap.size by omega) (fun h => h)).trans hS0.1, hS0.2.only hO5 (fun h => h)⟩
    have hz5 : W4.heap.size <= w5.heap.size := hO5.size
    clear hq5
    refine ⟨_, rfl, hS5, ?_⟩
    simp only [Act.put, n1, n3]
    refine zaq 19 (.agg #[.int .i64 bv, .int .u32 gv]) (some 147) rfl rfl (.inl ⟨rfl, fun w' hSw => by clear hSw; go_simp⟩) hS5 ?_
    simp only [Act.put, n1, n3]
    refine zaq 20 (.agg #[.int .i64 bv, .int .u32 gv, .bool false, .slice none 0 0, .slice none 0 0]) (some 148) rfl rfl (.inl ⟨rfl, fun w' hSw => by clear hSw; go_simp⟩) hS5 ?_
    simp only [Act.put, n1, n3]
    obtain ⟨n6, hn6⟩ : ∃ n6, n6 = w5.heap.size := ⟨_, rfl⟩
    have hS6 : (w5.alloc (.cells #[.int .i64 bv, .int .u32 gv, .bool false, .slice none 0 0, .slice none 0 0] 137)).cell? ⟨w.heap.size + 1, 4, none⟩ = some kv /\ Blk (w5.alloc (.cells #[.int .i64 bv, .int .u32 gv, .bool false, .slice none 0 0, .slice none 0 0] 137)) g 5 (bc B).toArray := ⟨zai _ hS5.1, hS5.2.alloc _⟩
    refine zt4 (i := 21) (w' := w5.alloc (.cells #[.int .i64 bv, .int .u32 gv, .bool false, .slice none 0 0, .slice none 0 0] 137)) (v := .pointer (some ⟨n6, 0, none⟩)) (some 149) (by kernel_rfl) rfl rfl rfl (by rw [hn6]; go_simp) hS6 ?_
    simp only [Act.put, n1, n3]
    have HN6 := zaa hn6
    clear hn6
    refine zaq 22 (.agg #[.string x.1, .pointer (some ⟨n6, 0, none⟩)]) (some 150) rfl rfl (.inl ⟨rfl, fun w' hSw => by clear hSw; go_simp⟩) hS6 ?_
    simp only [Act.put, n1, n3]
    refine zed (i := 23) (by kernel_rfl) rfl rfl ?_
    refine zim 135 139 (.tmp 150) rfl [.string x.1, .pointer (some ⟨n6, 0, none⟩)] (by kernel_rfl) i0 _ Tryz.underlying135 I0.out Z0.out Z1.out (by simp) (by simp) ?_
    have hS7 : ((w5.alloc (.cells #[.int .i64 bv, .int .u32 gv, .bool false, .slice none 0 0, .slice none 0 0] 137)).alloc (.cells #[.string x.1, .pointer (some ⟨n6, 0, none⟩)] 139)).cell? ⟨w.heap.size + 1, 4, none⟩ = some kv /\ Blk ((w5.alloc (.cells #[.int .i64 bv, .int .u32 gv, .bool false, .slice none 0 0, .slice none 0 0] 137)).alloc (.cells #[.string x.1, .pointer (some ⟨n6, 0, none⟩)] 139)) g 5 (bc B).toArray := ⟨zai _ hS6.1, hS6.2.alloc _⟩
    refine ⟨hS7, ?_⟩
    simp only [Act.put, n1]
    refine zed (i := 24) (by kernel_rfl) rfl rfl ?_
    have hOr : Only (· = w.heap.size + 1 + 1) wr w5 := HO4.out.trans' hO5 (fun _ _ h => h.elim)
    have hOw := ((za0 HOWN.out hOr HCN.out).alloc (.cells #[.int .i64 bv, .int .u32 gv, .bool false, .slice none 0 0, .slice none 0 0] 137)).alloc (.cells #[.string x.1, .pointer (some ⟨n6, 0, none⟩)] 139)
    refine zdq _ (.tmp 132) (.tmp 151) 135 rfl w.heap.size 139 i0 _ 2 24 Tryz.underlying135 I0.out Z0.out Z1.out Z2.out rfl (by decide) kv k (kcells (es.take k) bs) (by kernel_rfl) hOw ((w5.alloc (.cells #[.int .i64 bv, .int .u32 gv, .bool false, .slice none 0 0, .slice none 0 0] 137)).heap.size + 1) (some ⟨(w5.alloc (.cells #[.int .i64 bv, .int .u32 gv, .bool false, .slice none 0 0, .slice none 0 0] 137)).heap.size, 0, none⟩) 1 1 [.string x.1, .pointer (some ⟨n6, 0, none⟩)] (by kernel_rfl) ⟨rfl, fun _ => ⟨_, rfl, Nat.lt_succ_self _, fun j u hu => by rw [Addr.add_lit]; exact (Blk.new (w5.alloc (.cells #[.int .i64 bv, .int .u32 gv, .bool false, .slice none 0 0, .slice none 0 0] 137)) 139 #[.string x.1, .pointer (some ⟨n6, 0, none⟩)]).range (cur := [.string x.1, .pointer (some ⟨n6, 0, none⟩)]) (o := 0) rfl j u hu⟩⟩ (by intro u hu; simp only [List.mem_cons, List.not_mem_nil, or_false] at hu; rcases hu with rfl | rfl <;> rfl) (by unfold maxLen; omega) (by omega) (by simp only [World.size_alloc]; omega) ?_
    intro v7 w7 hown7 hgr7 hat7
    obtain ⟨A7, c7, hv7, _⟩ := zan hown7
    subst hv7
    have hnb : ∀ {y : Nat} {T : TypeId} {cs : Array Value}, Blk ((w5.alloc (.cells #[.int .i64 bv, .int .u32 gv, .bool false, .slice none 0 0, .slice none 0 0] 137)).alloc (.cells #[.string x.1, .pointer (some ⟨n6, 0, none⟩)] 139)) y T cs -> T ≠ 139 -> ¬ kv.ownBlock = some y := fun hy hT e => zag hOw hy hT.symm e
    have hNd6 : NodeAt ((w5.alloc (.cells #[.int .i64 bv, .int .u32 gv, .bool false, .slice none 0 0, .slice none 0 0] 137)).alloc (.cells #[.string x.1, .pointer (some ⟨n6, 0, none⟩)] 139)) (w.heap.size + 1) blk gen false (.slice none 0 0) kv := ((HND.out.only hOr (by omega)).alloc _).alloc _
    have hNd7 : NodeAt w7 (w.heap.size + 1) blk gen false (.slice none 0 0) kv := hNd6.grown hgr7 (fun e => hnb hNd6 (by decide) e.symm)
    have hB7 : Blk w7 g 5 (bc B).toArray := hS7.2.grown hgr7 (fun e => hnb hS7.2 (by decide) e.symm)
    have hS8 : w7.cell? ⟨w.heap.size + 1, 4, none⟩ = some kv /\ Blk w7 g 5 (bc B).toArray := ⟨zab hNd7 4 rfl, hB7⟩
    refine ⟨hS8, ?_⟩
    simp only [Act.put]
    refine zj8 ?_
    refine zac 25 (.pointer (some ⟨w.heap.size + 1, 0, none⟩)) (some 153) rfl rfl (.inl ⟨rfl, fun w' hSw => by go_simp⟩) trivial ?_
    simp only [Act.put, n1, n3]
    refine zac 26 (.pointer (some ⟨w.heap.size + 1, 4, none⟩)) (some 154) rfl rfl (.inl ⟨rfl, fun w' hSw => by go_simp⟩) trivial ?_
    simp only [Act.put, n1, n3]
    refine zaw (i := 27) (by kernel_rfl) rfl rfl ?_
    have f3 : w7.frozen? ⟨w.heap.size + 1, 4, none⟩ = false := hNd7.frozen 4
    have f3' : w7.cell? ⟨w.heap.size + 1, 4, none⟩ = some kv := hS8.1
    go_simp
    refine wpAnyH_done (by kernel_rfl) ?_ _
    go_wp2
    go_roundw
    case rel =>
     have hset : Only (· = w.heap.size + 1) w7 (w7.setCell ⟨w.heap.size + 1, 4, none⟩ (.slice A7 (k + 1) c7)) := Only.set1 _ _ _ _
     have hB7' := hB7.only hset (fun e => Blk.ne_ hB7 hNd7 (by decide) e)
     have hz7 := hgr7.size
     simp only [World.size_alloc] at hz7
     have hbel : Below w.heap.size w w7 := (((HBR.out.trans (hOr.to_below (by omega) (fun x hx => by omega))).alloc (by omega) _).alloc (by simp only [World.size_alloc]; omega) _).grown hgr7 (by simp only [World.size_alloc]; omega) (fun q hq => (zdv HOWN.out hq).1)
     refine ⟨k + 1, adv o3 c3 6, c3 - 6, _, bs ++ [n6], by omega, by go_num, hNd7.set_ 4 _, ?_, ?_, ?_, ?_, by omega, hB7', hbel.setCell (by show w.heap.size <= w.heap.size + 1; omega) _⟩
     . rw [List.length_append, HBS.out]; rfl
     . rw [HKC.out]
       exact za0 hown7 hset (fun y cs hy e => Blk.ne_ hy hNd7 (by decide) e)
     . refine HSN.out _ _ (fun j hj hj2 => ?_) (by rw [HN6.out]; omega) ?_
       . obtain ⟨s1, s2⟩ := HSTB.out j hj hj2
         refine ⟨s1, Blk.only ?_ hset (fun e => by omega)⟩
         have s3 := ((Blk.only s2 hOr (HSN2.out _ _ s2)).alloc (.cells #[.int .i64 bv, .int .u32 gv, .bool false, .slice none 0 0, .slice none 0 0] 137)).alloc (.cells #[.string x.1, .pointer (some ⟨n6, 0, none⟩)] 139)
         exact s3.grown hgr7 (fun e => hnb s3 (by decide) e.symm)
       . rw [HN6.out]
         have s3 := (Blk.new w5 137 #[.int .i64 bv, .int .u32 gv, .bool false, .slice none 0 0, .slice none 0 0]).alloc (.cells #[.string x.1, .pointer (some ⟨n6, 0, none⟩)] 139)
         exact (s3.grown hgr7 (fun e => hnb s3 (by decide) e.symm)).only hset (fun e => by omega)
     . rw [<- HR.out]
       have hcu7 : Blk w7 (w.heap.size + 1 + 1) 288 _ := (((HC4'.out.1.only hO5 (fun h => h)).alloc (.cells #[.int .i64 bv, .int .u32 gv, .bool false, .slice none 0 0, .slice none 0 0] 137)).alloc (.cells #[.string x.1, .pointer (some ⟨n6, 0, none⟩)] 139)).grown hgr7 (fun e => hnb (((HC4'.out.1.only hO5 (fun h => h)).alloc (.cells #[.int .i64 bv, .int .u32 gv, .bool false, .slice none 0 0, .slice none 0 0] 137)).alloc (.cells #[.string x.1, .pointer (some ⟨n6, 0, none⟩)] 139)) (by decide) e.symm)
       exact ⟨hcu7.only hset (by omega), HC4'.out.2.at_blk hS0.2 hB7'⟩
    case measure => simp [intOf]; omega
  . obtain rfl : k = es.length := by omega
    have hR0 : kbR bl ge es es.length = List.replicate (116 - ksum es) 0 := by unfold kbR; rw [List.drop_length]; rfl
    rw [hR0] at hcu
    rw [List.length_replicate] at hcu
    obtain ⟨N, hN⟩ : ∃ N, N = 116 - ksum es := ⟨_, rfl⟩
    rw [<- hN] at hcu
    have hN2 : N <= 116 := by omega
    have e0 := zab hcu.1 0 rfl
    have e1 := zab hcu.1 1 rfl
    have hz : ∀ j, j < N -> wr.cell? ⟨g, o + j, none⟩ = some (.int .u8 0) := by
     intro j hj
     obtain ⟨g', o', hA, x, hx, hc⟩ := hcu.2.at_ hj
     injection hA with hA
     injection hA with h1 h2
     subst h1; subst h2
     rw [List.getElem?_replicate, if_pos hj] at hx
     injection hx with hx
     subst hx
     exact hc
    have d10 : wr.cell? ⟨g, 10, none⟩ = some (.int .u8 2) := by
     have := (HH.out.cell HH.out.b10)
     rw [zdx] at this
     exact (hbr.cell HH.out.row.lt).trans this
    obtain ⟨A9, c9, rfl, _⟩ := zan hown
    have LF := zaa (fun k => zec (w.heap.size + 1) blk gen es.length c9 false (.slice none 0 0) A9 (wr.drewN k) (by exact hnd.below (zad (Below.refl _ _) k) hnd.lt) h1 (by omega))
    have HZ := zaa hz
    have HOWN := zaa hown
    have HND := zaa hnd
    have HCU := zaa hcu
    have HBR := zaa hbr
    have kk : ¬ (es.length : Int) < (es.length : Int) := by omega
    have hor0 : bits .or .i64 0 0 = 0 := by decide
    have htk : es.take es.length = es := List.take_length
    rw [htk] at HOWN
    have HSTB := zaa hstb
    have HBS := zaa hbs
    clear hz hown hnd hcu hbr hR0 hN htk hrow hlt hstb hbs
    go_wp2
    go_loop [14, 161] (fun r i => ∃ j : Nat, j <= N /\ i = .int .i64 j /\ r = .int .i64 0) (fun _ i => N - (intOf i).toNat)
    case atStart => exact ⟨0, Nat.zero_le _, rfl, rfl⟩
    case round =>
     obtain ⟨j, hj, rfl, rfl⟩ := hrel
     by_cases hlt : j < N
     . have zj := HZ.out j hlt
       have j1 : (j : Int) < (N : Int) := by omega
       have j0 : (0 : Int) <= (j : Int) := by omega
       go_wp2
       go_round
       case rel => exact ⟨j + 1, by omega, by go_num, rfl⟩
       case measure => simp [intOf]; omega
     . have j1 : ¬ (j : Int) < (N : Int) := by omega
       go_wp2
       go_quiet ((go_at_call 81; exact zco (LF.out _)))
       go_wp2
       go_ret2
       refine ⟨w.heap.size + 1, _, bs, rfl, by omega, HND.out.below (zad (Below.refl _ _) _) HND.out.lt, HBS.out, zbx HOWN.out (zad (Below.refl _ _) _), fun j hj hj2 => ?_, zad HBR.out _⟩
       obtain ⟨s1, s2⟩ := HSTB.out j hj hj2
       exact ⟨s1, s2.below (zad (Below.refl _ _) _) s2.lt⟩
end
def up (ok : Nat -> Prop) (B : Nat) : Nat -> Prop := fun x => ok x \/ B <= x
theorem FRep.below {ok ok' : Nat -> Prop} {w w' : World} {h : Nat} {t : Tr h} {b : Nat} {ds : List Nat} (hf : FRep ok w h t b ds) (hb : Below w.heap.size w w') (hs : ∀ x, ok x -> ok' x) : FRep ok' w' h t b ds :=
 hf.lt.move (Agree.of_below hb fun _ hx => hx.2) fun x hx => hs x hx.1
theorem RepL.below {ok ok' : Nat -> Prop} {w w' : World} {h : Nat} {es : List (Str × Tr h)} {bs : List Nat} {dss : List (List Nat)} (hf : RepL (FRep ok w h) es bs dss) (hb : Below w.heap.size w w') (hs : ∀ x, ok x -> ok' x) : RepL (FRep ok' w' h) es bs dss :=
 hf.mono fun _ _ _ hk => hk.below hb hs
theorem zt9 {ok : Nat -> Prop} {B : Nat} : ∀ x, ok x -> up ok B x := fun _ h => .inl h
theorem zdo (w : World) (base : Nat) (T : TypeId) : w.ownsRow base T 2 (.slice none 0 0) 0 [] := ⟨rfl, .inl ⟨rfl, rfl⟩⟩
theorem zoj (a b : List (Str × Str)) : pcells (a ++ b) = pcells a ++ pcells b := by simp [pcells]
theorem zi6 {K : Type} (k : Str) (es : List (Str × K)) : (rekey k es).length = es.length := by cases es <;> rfl
theorem RepL.rekey {K : Type} {R : K -> Nat -> List Nat -> Prop} (k : Str) {es : List (Str × K)} {bs : List Nat} {dss : List (List Nat)} (h : RepL R es bs dss) : RepL R (rekey k es) bs dss := by
 cases es with
 | nil => exact h
 | cons e es =>
   cases bs with
   | nil => exact h.elim
   | cons b bs =>
     cases dss with
     | nil => exact h.elim
     | cons d dss => exact h
theorem z0y {ok : Nat -> Prop} : ∀ (h : Nat) (t1 t2 : Tr h) (k : Str) (b1 b2 : Nat) (d1 d2 : List Nat) (w : World), FRep ok w h t1 b1 d1 -> FRep ok w h t2 b2 d2 -> Tr.len h t1 <= 400 -> Tr.len h t2 <= 400 -> (1 <= Tr.len h t1 \/ h = 0) -> (1 <= Tr.len h t2 \/ h = 0) ->
   Calls Tryz.prog 162 #[P b1, .agg #[.string k, P b2]] w fun e w' => ∃ b' e1 e2, e = .returned (P b') /\ FRep (up ok w.heap.size) w' h (Tr.join h t1 k t2) b' (e1 ++ e2 ++ [b']) /\ e1 ++ zaf (Tr.dirty h t1) b1 = d1 /\ e2 ++ zaf (Tr.dirty h t2) b2 = d2 /\ w.heap.size <= b' /\ Below w.heap.size w w'
 | 0, t1, t2, k, b1, b2, d1, d2, w, ⟨A1, c1, A2, c2, hn, hb, hr, hd⟩, ⟨A1', c1', A2', c2', hn', hb', hr', hd'⟩, l1, l2, _, _ => by
   refine (zt2 (Nd.es t1) (Nd.es t2) k b1 _ _ c1 c2 b2 _ _ c1' c2' _ _ A1 A2 A1' A2' w hn hn' l1 l2).mono ?_
   rintro e w' ⟨b', B1, g1, B2, g2, rfl, x1, x2, x3, x4, x5⟩
   refine ⟨b', [], [], rfl, ?_, hd.symm, hd'.symm, x4, x5⟩
   rw [<- zoj] at x2
   exact FRep.mk_leaf (es := Nd.es t1 ++ Nd.es t2) (by rw [List.length_append]) x1 x2 x3 x4 fun _ hx _ => .inr hx
 | h + 1, t1, t2, k, b1, b2, d1, d2, w, ⟨A1, c1, A2, c2, bs, dss, hn, hb, hr, hk, hd⟩, ⟨A1', c1', A2', c2', bs', dss', hn', hb', hr', hk', hd'⟩, l1, l2, p1, p2 => by
   have p1' : 1 <= (Nd.es t1).length := by rcases p1 with p | p; exact p; cases p
   have p2' : 1 <= (Nd.es t2).length := by rcases p2 with p | p; exact p; cases p
   refine (zt8 (Nd.es t1) (Nd.es t2) bs bs' hk.len.1 hk'.len.1 k b1 _ _ c2 c1 b2 _ _ c2' c1' _ _ A2 A1 A2' A1' w hn hn' l1 l2 p1' p2').mono ?_
   rintro e w' ⟨b', B1, g1, B2, g2, rfl, x1, x2, x3, x4, x5⟩
   refine ⟨b', dss.flatten, dss'.flatten, rfl, ?_, hd.symm, hd'.symm, x4, x5⟩
   rw [<- List.flatten_append]
   exact FRep.mk_branch (es := Nd.es t1 ++ rekey k (Nd.es t2)) (by rw [List.length_append, zi6]) x1 x2 x3 x4 (fun _ hx _ => .inr hx) ((hk.below x5 zt9).append ((hk'.below x5 zt9).rekey k))
theorem zst {ok : Nat -> Prop} : ∀ (h : Nat) (t : Tr h) (b : Nat) (ds : List Nat) (w : World), FRep ok w h t b ds -> 2 <= Tr.len h t -> Tr.len h t <= 1000 -> Tr.size h t <= 100000 ->
   Calls Tryz.prog 86 #[P b] w fun e w' => ∃ b1 b2 d1 d2, e = .returned (.tuple #[P b1, .agg #[.string (Tr.split h t).2.1, P b2]]) /\ FRep (up ok w.heap.size) w' h (Tr.split h t).1 b1 (d1 ++ [b1]) /\ FRep (up ok w.heap.size) w' h (Tr.split h t).2.2 b2 (d2 ++ [b2]) /\ d1 ++ d2 ++ zaf (Tr.dirty h t) b = ds /\
    w.heap.size <= b1 /\ w.heap.size <= b2 /\ b1 ≠ b2 /\ Below w.heap.size w w'
 | 0, t, b, ds, w, ⟨A1, c1, A2, c2, hn', hb, hr, hds⟩, h1, hn, hs => by
   change 2 <= (Nd.es t).length at h1
   change (Nd.es t).length <= 1000 at hn
   change ((Nd.es t).map lsz).sum <= 100000 at hs
   obtain ⟨g, o, u, v, hA, _, _, _, _, hg⟩ := hn'.ps.cells_at (Below.refl _ _) (k := 0) (by omega)
   subst hA
   obtain ⟨_, _, _, hve, hnc, hcm, _, _⟩ := hn'.ps
   injection hve with _ _ hce
   subst hce
   obtain ⟨k1, k2⟩ := zj6 ((Nd.es t).map lsz) (by simpa using h1)
   rw [List.length_map] at k2
   refine (zrp (Nd.es t) b (Nd.blk t) (Nd.gen t) g o c1 _ c2 (Nd.dirty t) A2 w hn'.node hn'.ps rfl k1 k2 hnc hcm hn hs).mono ?_
   rintro e w' ⟨A1', d1, A2', d2, rfl, x1, x2, x3, x4, x5⟩
   refine ⟨_, _, [], [], rfl, ?_, ?_, hds.symm, by omega, by omega, by omega, x5⟩
   . exact FRep.mk_leaf (by rw [List.length_take, Nat.min_eq_left (by omega)]) x1 x3 (zdo _ _ _) (by omega) fun _ hx _ => .inr hx
   . exact FRep.mk_leaf (by rw [List.length_drop]) x2 x4 (zdo _ _ _) (by omega) fun _ hx _ => .inr hx
 | h + 1, t, b, ds, w, ⟨A1, c1, A2, c2, bs, dss, hn', hb, hr, hrl, hds⟩, h1, hn, hs => by
   change 2 <= (Nd.es t).length at h1
   change (Nd.es t).length <= 1000 at hn
   change ((Nd.es t).map ksz).sum <= 100000 at hs
   obtain ⟨g, o, u, v, hA, _, _, _, _, hg⟩ := hn'.ks.cells_at (Below.refl _ _) (k := 0) (by omega)
   subst hA
   obtain ⟨_, _, _, hve, hnc, hcm, _, _⟩ := hn'.ks
   injection hve with _ _ hce
   subst hce
   obtain ⟨k1, k2⟩ := zj6 ((Nd.es t).map ksz) (by simpa using h1)
   rw [List.length_map] at k2
   refine (zrq (Nd.es t) bs hrl.len.1 b (Nd.blk t) (Nd.gen t) g o c2 _ c1 (Nd.dirty t) A1 w hn'.node hn'.ks rfl k1 k2 hnc hcm hn hs).mono ?_
   rintro e w' ⟨A1', d1, A2', d2, rfl, x1, x2, x3, x4, x5⟩
   have hrl' := hrl.below x5 (ok' := up ok w.heap.size) zt9
   refine ⟨_, _, (dss.take (zaz ((Nd.es t).map ksz))).flatten, (dss.drop (zaz ((Nd.es t).map ksz))).flatten, rfl, ?_, ?_, ?_, by omega, by omega, by omega, x5⟩
   . exact FRep.mk_branch (by rw [List.length_take, Nat.min_eq_left (by omega)]) x1 (zdo _ _ _) x3 (by omega) (fun _ hx _ => .inr hx) (hrl'.take _)
   . exact FRep.mk_branch (by rw [List.length_drop]) x2 (zdo _ _ _) x4 (by omega) (fun _ hx _ => .inr hx) (hrl'.drop _)
   . rw [<- List.flatten_append, List.take_append_drop]; exact hds.symm
def fp (pk : Nat -> Prop) (b : Nat) (A : Option Addr) : Nat -> Prop := fun x => pk x /\ x ≠ b /\ ∀ a, A = some a -> x ≠ a.block
structure Opn (pk : Nat -> Prop) (base : Nat) (w : World) (h b : Nat) (es : List (Str × Tr h)) (bs : List Nat) (dss : List (List Nat)) (A1 : Option Addr) (c1 : Nat) (A2 : Option Addr) (n c2 : Nat) : Prop where
 len : n = es.length
 node : Blk w b 137 #[.int .i64 0, .int .u32 0, .bool true, .slice A1 0 c1, .slice A2 n c2]
 ps : w.ownsRow base 68 2 (.slice A1 0 c1) 0 []
 ks : w.ownsRow base 139 2 (.slice A2 n c2) n (kcells es bs)
 hb : base <= b
 kids : RepL (FRep (fp pk b A2) w h) es bs dss
theorem zjp {w : World} {base n c g j : Nat} {T : TypeId} {xs : List Value} (h : w.ownsRow base T 2 (.slice (some ⟨g, 0, none⟩) n c) n xs) (_hj : j < n * 2) (u : Value) :
   (w.setCell ⟨g, j, none⟩ u).ownsRow base T 2 (.slice (some ⟨g, 0, none⟩) n c) n (xs.set j u) := by
 obtain ⟨hl, hd⟩ := h
 rcases hd with ⟨h0, _⟩ | ⟨g', cap, cur, hv, hb, hg, hnc, hcm, hcs, hx⟩
 . cases h0
 . injection hv with hv _ hc
   injection hv with hv
   injection hv with hv
   subst hv
   subst hc
   refine ⟨by rw [List.length_set]; exact hl, .inr ⟨g, c, cur.setIfInBounds j u, rfl, hb, Blk.set_ (t := T) hg j u, hnc, hcm, by simpa using hcs, ?_⟩⟩
   rw [<- hx]
   simp only [Array.toList_setIfInBounds]
   rw [List.take_set]
theorem zb0 {w : World} {base n c : Nat} {T : TypeId} {A : Option Addr} {xs : List Value} (h : w.ownsRow base T 2 (.slice A n c) n xs) (hn : 0 < n) : ∃ g cur, A = some ⟨g, 0, none⟩ /\ base <= g /\ Blk w g T cur /\ cur.toList.take (n * 2) = xs /\ cur.size = c * 2 /\ n <= c /\ c <= maxLen := by
 obtain ⟨hl, hd⟩ := h
 rcases hd with ⟨_, h0⟩ | ⟨g', cap, cur, hv, hb, hg, hnc, hcm, hcs, hx⟩
 . omega
 . injection hv with hv _ hc
   subst hc
   exact ⟨g', cur, hv, hb, hg, hx, hcs, hnc, hcm⟩
theorem RepL.set {K : Type} {R : K -> Nat -> List Nat -> Prop} : ∀ {pre post : List (Str × K)} {k : Str} {c t : K} {bs : List Nat} {dss : List (List Nat)} {b : Nat} {d : List Nat}, RepL R (pre ++ (k, c) :: post) bs dss -> R t b d -> RepL R (pre ++ (k, t) :: post) (bs.set pre.length b) (dss.set pre.length d)
 | [], _, _, _, _, _ :: _, _ :: _, _, _, h, ht => ⟨ht, h.2⟩
 | [], _, _, _, _, [], _, _, _, h, _ => h.elim
 | [], _, _, _, _, _ :: _, [], _, _, h, _ => h.elim
 | _ :: _, _, _, _, _, [], _, _, _, h, _ => h.elim
 | _ :: _, _, _, _, _, _ :: _, [], _, _, h, _ => h.elim
 | _ :: _, _, _, _, _, _ :: _, _ :: _, _, _, h, ht => ⟨h.1, RepL.set h.2 ht⟩
theorem RepL.at_ {K : Type} {R : K -> Nat -> List Nat -> Prop} : ∀ {es : List (Str × K)} {bs : List Nat} {dss : List (List Nat)}, RepL R es bs dss -> ∀ (i : Nat) (h1 : i < es.length) (h2 : i < bs.length) (h3 : i < dss.length), R es[i].2 bs[i] dss[i]
 | _ :: _, _ :: _, _ :: _, h, 0, _, _, _ => h.1
 | _ :: _, _ :: _, _ :: _, h, i + 1, h1, h2, h3 => RepL.at_ h.2 i (by simpa using h1) (by simpa using h2) (by simpa using h3)
 | [], _, _, _, i, h1, _, _ => by simp at h1
 | _ :: _, [], _, _, i, _, h2, _ => by simp at h2
 | _ :: _, _ :: _, [], _, i, _, _, h3 => by simp at h3
theorem zl3 {K : Type} : ∀ (pre post : List (Str × K)) (k : Str) (c t : K) (bs : List Nat) (b : Nat), bs.length = (pre ++ (k, c) :: post).length -> (kcells (pre ++ (k, c) :: post) bs).set (pre.length * 2 + 1) (P b) = kcells (pre ++ (k, t) :: post) (bs.set pre.length b)
 | [], _, _, _, _, [], _, h => by simp at h
 | [], post, k, c, t, b0 :: bs, b, h => by simp [kcells]
 | _ :: _, _, _, _, _, [], _, h => by simp at h
 | e :: pre, post, k, c, t, b0 :: bs, b, h => by
   have := zl3 pre post k c t bs b (by simpa using h)
   simp only [List.cons_append, List.length_cons, List.set_cons_succ, show (pre.length + 1) * 2 + 1 = pre.length * 2 + 1 + 1 + 1 by omega, kcells]
   rw [this]
section
variable {pk : Nat -> Prop} {base : Nat} {w w' : World} {h b : Nat} {es : List (Str × Tr h)} {bs : List Nat} {dss : List (List Nat)} {A1 A2 : Option Addr} {n c1 c2 : Nat}
theorem Opn.below (o : Opn pk base w h b es bs dss A1 c1 A2 n c2) (hb : Below w.heap.size w w') : Opn pk base w' h b es bs dss A1 c1 A2 n c2 :=
 ⟨o.len, o.node.below hb o.node.lt, zas o.ps hb, zas o.ks hb, o.hb, o.kids.below hb fun _ hx => hx⟩
theorem Opn.setKid {pre post : List (Str × Tr h)} {k : Str} {c t : Tr h} {bt : Nat} {dt : List Nat} {g : Nat} (o : Opn pk base w h b (pre ++ (k, c) :: post) bs dss A1 c1 (some ⟨g, 0, none⟩) n c2) (ht : FRep (fp pk b (some ⟨g, 0, none⟩)) w h t bt dt) :
   Opn pk base (w.setCell ⟨g, pre.length * 2 + 1, none⟩ (P bt)) h b (pre ++ (k, t) :: post) (bs.set pre.length bt) (dss.set pre.length dt) A1 c1 (some ⟨g, 0, none⟩) n c2 := by
 have hn := o.len
 simp only [List.length_append, List.length_cons] at hn
 obtain ⟨g', cur, hA, _, hgb, _⟩ := zb0 o.ks (by omega)
 injection hA with hA
 injection hA with hA
 subst hA
 have hgn : b ≠ g := o.node.ne_ hgb (by decide)
 have hag : Agree (fp pk b (some ⟨g, 0, none⟩)) w (w.setCell ⟨g, pre.length * 2 + 1, none⟩ (P bt)) := Agree.setCell w _ _ fun hx => hx.2.2 _ rfl rfl
 refine ⟨by rw [o.len]; simp, o.node.far hgn _, ownsRow_setCell_other o.ps (zag o.ps hgb (by decide)) _, ?_, o.hb, ?_⟩
 . have := zjp o.ks (j := pre.length * 2 + 1) (by omega) (P bt)
   rw [zl3 pre post k c t bs bt o.kids.len.1] at this
   exact this
 . exact (o.kids.mono fun _ _ _ hk => hk.move hag fun _ hx => hx).set (ht.move hag fun _ hx => hx)
theorem Opn.row {es' : List (Str × Tr h)} {bs' : List Nat} {dss' : List (List Nat)} {A' : Option Addr} {n' c' : Nat} (o : Opn pk base w h b es bs dss A1 c1 A2 n c2) (hg : w.grownBy w' (Value.slice A2 n c2).ownBlock) (hn : n' = es'.length)
   (hr : w'.ownsRow base 139 2 (.slice A' n' c') n' (kcells es' bs')) (hat : (Value.slice A' n' c').ownBlock = (Value.slice A2 n c2).ownBlock \/ ∃ g', (Value.slice A' n' c').ownBlock = some g' /\ w.heap.size <= g') (hk : RepL (FRep (fp pk b A2) w h) es' bs' dss') :
   Opn pk base (w'.setCell ⟨b, 4, none⟩ (.slice A' n' c')) h b es' bs' dss' A1 c1 A' n' c' := by
 have hnb : some b ≠ (Value.slice A2 n c2).ownBlock := fun e => zag o.ks o.node (by decide) e.symm
 have hb' := o.node.grown hg hnb
 have hp' : w'.ownsRow base 68 2 (.slice A1 0 c1) 0 [] := World.ownsRow.kept o.ps hg (zgn o.ps o.ks (by decide))
 have hag : Agree (fun x => fp pk b A2 x /\ x < w.heap.size) w (w'.setCell ⟨b, 4, none⟩ (.slice A' n' c')) :=
  Agree.trans (Agree.grown hg fun x hx => ⟨hx.2, fun e => by
   cases A2 with
   | none => cases e
   | some a => exact hx.1.2.2 a rfl (by simpa [Value.ownBlock] using e)⟩) (Agree.setCell w' _ _ fun hx => hx.1.2.1 rfl)
 refine ⟨hn, hb'.set_ 4 _, ownsRow_setCell_other hp' (zag hp' hb' (by decide)) _, ownsRow_setCell_other hr (zag hr hb' (by decide)) _, o.hb, ?_⟩
 refine hk.mono fun _ _ _ hk => hk.lt.move hag fun x hx => ⟨hx.1.1, hx.1.2.1, fun a ha => ?_⟩
 subst ha
 rcases hat with e | ⟨g', e, hge⟩
 . cases A2 with
   | none => cases e
   | some a2 =>
     have : a.block = a2.block := by simpa [Value.ownBlock] using e
     rw [this]
     exact hx.1.2.2 _ rfl
 . have : a.block = g' := by simpa [Value.ownBlock] using e
   have := hx.2
   omega
end
theorem RepL.cut {K : Type} {R : K -> Nat -> List Nat -> Prop} : ∀ {pre post : List (Str × K)} {k : Str} {c : K} {bs : List Nat} {dss : List (List Nat)}, RepL R (pre ++ (k, c) :: post) bs dss ->
   ∃ bp bc bq dp dc dq, bs = bp ++ bc :: bq /\ dss = dp ++ dc :: dq /\ bp.length = pre.length /\ dp.length = pre.length /\ RepL R pre bp dp /\ R c bc dc /\ RepL R post bq dq
 | [], _, _, _, b :: bs, d :: dss, h => ⟨[], b, bs, [], d, dss, rfl, rfl, rfl, rfl, trivial, h.1, h.2⟩
 | [], _, _, _, [], _, h => h.elim
 | [], _, _, _, _ :: _, [], h => h.elim
 | _ :: _, _, _, _, [], _, h => h.elim
 | _ :: _, _, _, _, _ :: _, [], h => h.elim
 | _ :: pre, _, _, _, b :: bs, d :: dss, h => by
   obtain ⟨bp, bc, bq, dp, dc, dq, rfl, rfl, h1, h2, h3, h4, h5⟩ := RepL.cut h.2
   exact ⟨b :: bp, bc, bq, d :: dp, dc, dq, rfl, rfl, by simp [h1], by simp [h2], ⟨h.1, h3⟩, h4, h5⟩
theorem zj9 {d : Bool} {b x : Nat} (h : x ∈ zaf d b) : x = b := by
 unfold zaf at h
 split at h
 . simpa using h
 . simp at h
theorem RepL.ds {K : Type} {R : K -> Nat -> List Nat -> Prop} {P : Nat -> Prop} (hR : ∀ k b d, R k b d -> ∀ x ∈ d, P x) : ∀ {es : List (Str × K)} {bs : List Nat} {dss : List (List Nat)}, RepL R es bs dss -> ∀ x ∈ dss.flatten, P x
 | [], [], [], _, x, hx => by simp at hx
 | _ :: _, _ :: _, d :: dss, h, x, hx => by
   rw [List.flatten_cons, List.mem_append] at hx
   rcases hx with hx | hx
   . exact hR _ _ _ h.1 x hx
   . exact RepL.ds hR h.2 x hx
 | [], [], _ :: _, h, _, _ => h.elim
 | [], _ :: _, _, h, _, _ => h.elim
 | _ :: _, [], _, h, _, _ => h.elim
 | _ :: _, _ :: _, [], h, _, _ => h.elim
theorem FRep.ds {ok : Nat -> Prop} {w : World} : ∀ {h : Nat} {t : Tr h} {b : Nat} {ds : List Nat}, FRep ok w h t b ds -> ∀ x ∈ ds, ok x /\ x < w.heap.size
 | 0, _, _, _, ⟨A1, c1, A2, c2, hn, hb, hr, hd⟩, x, hx => by
   rw [hd] at hx
   rw [zj9 hx]
   exact ⟨hb, Blk.lt hn.node⟩
 | _ + 1, _, _, _, ⟨A1, c1, A2, c2, bs, dss, hn, hb, hr, hk, hd⟩, x, hx => by
   rw [hd, List.mem_append] at hx
   rcases hx with hx | hx
   . exact hk.ds (fun _ _ _ hk => FRep.ds hk) x hx
   . rw [zj9 hx]
     exact ⟨hb, Blk.lt hn.node⟩
theorem Opn.cells {pk : Nat -> Prop} {base : Nat} {w : World} {h b : Nat} {pre post : List (Str × Tr h)} {k : Str} {c : Tr h} {bp bq : List Nat} {bt : Nat} {dss : List (List Nat)} {A1 : Option Addr} {g n c1 c2 : Nat}
   (o : Opn pk base w h b (pre ++ (k, c) :: post) (bp ++ bt :: bq) dss A1 c1 (some ⟨g, 0, none⟩) n c2) (hl : bp.length = pre.length) : w.cell? ⟨g, pre.length * 2, none⟩ = some (.string k) /\ w.cell? ⟨g, pre.length * 2 + 1, none⟩ = some (P bt) := by
 have hn := o.len
 simp only [List.length_append, List.length_cons] at hn
 obtain ⟨g', cur, hA, _, hgb, hx, _⟩ := zb0 o.ks (by omega)
 injection hA with hA
 injection hA with hA
 subst hA
 have hc := zbv (pre ++ (k, c) :: post) (bp ++ bt :: bq) pre.length (by simp) (by simp; omega)
 rw [<- hx] at hc
 rw [hgb.cell, hgb.cell]
 have h1 : (pre ++ (k, c) :: post)[pre.length]'(by simp) = (k, c) := by simp
 have h2 : (bp ++ bt :: bq)[pre.length]'(by simp; omega) = bt := by
  rw [List.getElem_append_right (by omega)]
  simp [hl]
 rw [h1, h2, List.getElem?_take, List.getElem?_take, if_pos (by omega), if_pos (by omega)] at hc
 simpa using hc
theorem zij {K : Type} : ∀ (pre post : List (Str × K)) (k : Str) (c : K) (k2 : Str) (d : K) (bp bq : List Nat) (b1 b2 : Nat), bp.length = pre.length -> 
   (kcells (pre ++ (k, c) :: post) (bp ++ b1 :: bq)).take (pre.length * 2 + 2) ++ [.string k2, P b2] ++ (kcells (pre ++ (k, c) :: post) (bp ++ b1 :: bq)).drop (pre.length * 2 + 2) = kcells (pre ++ (k, c) :: (k2, d) :: post) (bp ++ b1 :: b2 :: bq)
 | [], post, k, c, k2, d, [], bq, b1, b2, _ => by simp [kcells]
 | [], _, _, _, _, _, _ :: _, _, _, _, h => by simp at h
 | _ :: _, _, _, _, _, _, [], _, _, _, h => by simp at h
 | e :: pre, post, k, c, k2, d, b0 :: bp, bq, b1, b2, h => by
   have := zij pre post k c k2 d bp bq b1 b2 (by simpa using h)
   simp only [List.cons_append, List.length_cons, kcells, show (pre.length + 1) * 2 + 2 = pre.length * 2 + 2 + 1 + 1 by omega, List.take_succ_cons, List.drop_succ_cons, List.append_assoc] at this ⊢
   rw [this]
theorem zik {K : Type} : ∀ (pre post : List (Str × K)) (k k2 : Str) (c d : K) (bp bq : List Nat) (b1 b2 : Nat), bp.length = pre.length ->
   (kcells (pre ++ (k, c) :: (k2, d) :: post) (bp ++ b1 :: b2 :: bq)).take (pre.length * 2 + 2) ++ (kcells (pre ++ (k, c) :: (k2, d) :: post) (bp ++ b1 :: b2 :: bq)).drop (pre.length * 2 + 2 + 2) = kcells (pre ++ (k, c) :: post) (bp ++ b1 :: bq)
 | [], post, k, k2, c, d, [], bq, b1, b2, _ => by simp [kcells]
 | [], _, _, _, _, _, _ :: _, _, _, _, h => by simp at h
 | _ :: _, _, _, _, _, _, [], _, _, _, h => by simp at h
 | e :: pre, post, k, k2, c, d, b0 :: bp, bq, b1, b2, h => by
   have := zik pre post k k2 c d bp bq b1 b2 (by simpa using h)
   simp only [List.cons_append, List.length_cons, kcells, show (pre.length + 1) * 2 + 2 = pre.length * 2 + 2 + 1 + 1 by omega, show pre.length * 2 + 2 + 1 + 1 + 2 = pre.length * 2 + 2 + 2 + 1 + 1 by omega, List.take_succ_cons, List.drop_succ_cons] at this ⊢
   rw [this]
theorem RepL.join2 {K : Type} {R : K -> Nat -> List Nat -> Prop} {pre post : List (Str × K)} {bp bq : List Nat} {dp dq : List (List Nat)} {k : Str} {c : K} {bc : Nat} {dc : List Nat} (h1 : RepL R pre bp dp) (h2 : R c bc dc) (h3 : RepL R post bq dq) : RepL R (pre ++ (k, c) :: post) (bp ++ bc :: bq) (dp ++ dc :: dq) :=
 h1.append ⟨h2, h3⟩
theorem RepL.cut2 {K : Type} {R : K -> Nat -> List Nat -> Prop} : ∀ {pre post : List (Str × K)} {k : Str} {c : K} {bp bq : List Nat} {bc : Nat} {dp dq : List (List Nat)} {dc : List Nat}, RepL R (pre ++ (k, c) :: post) (bp ++ bc :: bq) (dp ++ dc :: dq) -> bp.length = pre.length -> dp.length = pre.length -> RepL R pre bp dp /\ R c bc dc /\ RepL R post bq dq
 | [], _, _, _, [], _, _, [], _, _, h, _, _ => ⟨trivial, h.1, h.2⟩
 | [], _, _, _, _ :: _, _, _, _, _, _, _, h1, _ => by simp at h1
 | [], _, _, _, [], _, _, _ :: _, _, _, _, _, h2 => by simp at h2
 | _ :: _, _, _, _, [], _, _, _, _, _, _, h1, _ => by simp at h1
 | _ :: _, _, _, _, _ :: _, _, _, [], _, _, _, _, h2 => by simp at h2
 | _ :: _, _, _, _, _ :: _, _, _, _ :: _, _, _, h, h1, h2 => by
   obtain ⟨x, y, z⟩ := RepL.cut2 h.2 (by simpa using h1) (by simpa using h2)
   exact ⟨⟨h.1, x⟩, y, z⟩
theorem zee {α : Type} (a b : List α) (x y : α) (i : Nat) (h : a.length = i) : (a ++ x :: b).set i y = a ++ y :: b := by
 subst h
 simp
theorem zm3 (base n c i : Nat) (A : Option Addr) (xs : List Value) (w : World) (hown : w.ownsRow base 139 2 (.slice A n c) n xs) (hi : i + 1 <= n) (hn : n <= 1000) (h1 : ∀ u ∈ xs, u.oneCell' = true) :
   Calls Tryz.prog 163 #[.slice A n c, .int .i64 i, .int .i64 (i + 1)] w fun e w' => e = .returned (.slice A (n - 1) c) /\ w'.ownsRow base 139 2 (.slice A (n - 1) c) (n - 1) (xs.take (i * 2) ++ xs.drop (i * 2 + 2)) /\ w.grownBy w' (Value.slice A n c).ownBlock := by
 obtain ⟨m, rfl⟩ : ∃ m, n = m + 1 := ⟨n - 1, by omega⟩
 have hl := hown.1
 obtain ⟨g, cur, rfl, hb, hg, hx, hcs, hnc, hcm⟩ := zb0 hown (by omega)
 obtain ⟨L⟩ := cur
 have hx' : L.take ((m + 1) * 2) = xs := hx
 refine (ztu g m c i L w hg (by simpa using hcs) hnc (by omega) (by omega) (by rw [hx']; exact h1) hcm).mono ?_
 rintro e w' ⟨cur', rfl, hgr, _, hb', hlen, htk⟩
 refine ⟨rfl, ⟨?_, .inr ⟨g, c, cur'.toArray, rfl, hb, hb', by omega, hcm, by simpa using hlen, ?_⟩⟩, hgr⟩
 . simp only [List.length_append, List.length_take, List.length_drop]; omega
 . rw [hx'] at htk
   have h2 : L.take (i * 2) = xs.take (i * 2) := by rw [<- hx', List.take_take, Nat.min_eq_left (by omega)]
   rw [h2] at htk
   simpa using htk
end Go.Proofs.YtemondlgcmpbbaaGreatDoor
