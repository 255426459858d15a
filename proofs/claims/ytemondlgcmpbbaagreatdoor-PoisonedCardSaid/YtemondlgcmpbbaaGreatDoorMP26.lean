/- Lp Nl Kj Kg Kl: merged. -/
import Derived.Test.YtemondlgcmpbbaaGreatDoorMP25
import Derived.Test.YtemondlgcmpbbaaGreatDoorMP19
import Derived.BigQuiet
import Derived.Deep.QuietTactic
import Derived.Deep.RegionHeld3
import Derived.RegionTactic
namespace Go.Proofs.YtemondlgcmpbbaaGreatDoor
open Go.RowKit
set_option maxRecDepth 100000
theorem UsedAt.not_own {w : World} {u base s n : Nat} {L : List Nat} {T : TypeId} {v : Value} {xs : List Value} (h : UsedAt w u L) (ho : w.ownsRow base T s v n xs) (e : v.ownBlock = some u) : False := by
 obtain ⟨A, c, rfl, _, _, hx, _⟩ := zan ho
 obtain ⟨_, _, _, cur, hb, _⟩ := hx u e
 exact h.ne_blk hb rfl
theorem zny {w : World} {base base' s n : Nat} {T : TypeId} {v : Value} {xs : List Value} (h : w.ownsRow base T s v n xs) (hb : base' <= base) : w.ownsRow base' T s v n xs := zcx h hb
set_option maxHeartbeats 2000000 in
theorem zqg (K b g base n : Nat) (cv : Value) (m : Nums) (bytes : List UInt8) (cache : List (Nat × List UInt8)) (L U G blk gen deep : Nat) (keys : Int) (Lu : List Nat) (lo : Str) (hi : Option Str) (w : World) (hpre : zqf w K b g base n cv m bytes cache L U G keys Lu)
   (h2 : 2 <= blk) (hbn : blk < n) (hgg : gen <= G) (hblk : blk ∉ Lu) (hdeep : deep <= 40) (hhi : hi = hi) (hrd : (dread bytes cache blk).length = 128 /\ sealedN (dread bytes cache blk) = false) :
   Calls Tryz.prog 144 #[.pointer (some ⟨L, 0, none⟩), .agg #[.int .i64 blk, .int .u32 gen], .string lo, .string (hiS hi), .int .i64 deep] w fun e w' => e = .returned (.tuple #[.pointer none, .bool false]) /\ Dk w' (K + 1) b g base n cv m.tick bytes cache /\ Only (fun x => x = b \/ x = U \/ x = L) w w' := by
 obtain ⟨hdk, hcalm, hlr, hu, hn1, hn2, hnum, hG, hk0, hk1⟩ := hpre
 have mB := zfi
 have hbw : b < w.heap.size := hdk.at_.lt
 have hLw : L < w.heap.size := Blk.lt hlr
 have hUw : U < w.heap.size := hu.lt
 have hbL : ¬ b = L := fun e => Blk.ne_ hdk.at_ hlr (by decide) e
 have hUb : ¬ U = b := hu.ne_blk hdk.at_
 have hUL : ¬ U = L := hu.ne_blk hlr
 have hgU : ¬ U = g := hu.ne_blk hdk.blk
 obtain ⟨W0, hW0⟩ : ∃ W0, W0 = w.alloc (.cells #[.int .i64 blk, .int .u32 gen] 134) := ⟨_, rfl⟩
 have hb0 : Below w.heap.size w W0 := by rw [hW0]; exact (Below.refl _ _).alloc (Nat.le_refl _) _
 have hat0 : Blk W0 w.heap.size 134 #[.int .i64 blk, .int .u32 gen] := by rw [hW0]; exact Blk.new _ _ _
 have hlr0 := hlr.below hb0 hLw
 have hz0 : w.heap.size < W0.heap.size := hat0.lt
 have a0 := zab hat0 0 rfl
 have a1 := zab hat0 1 rfl
 have b0 := zab hlr0 0 rfl
 have b1 := zab hlr0 1 rfl
 have b2 := zab hlr0 2 rfl
 have b3 := zab hlr0 3 rfl
 have BL := zaa (fun k => zd8 b n (zdb bytes) (some ⟨g, 0, none⟩) cv m (W0.drewN k) (hdk.below (zad hb0 k)).at_)
 have lk := fun k => zhl (hu.below (zad hb0 k)) blk
 rw [if_neg hblk] at lk
 have q1 : (2 : Int) <= (blk : Int) := by omega
 have q2 : (blk : Int) < (n : Int) := by omega
 have q3 : (gen : Int) <= (G : Int) := by omega
 have q4 : (deep : Int) <= 40 := by omega
 have HHI := zaa hhi
 have HDK := zaa hdk
 have HCA := zaa hcalm
 have HU := zaa hu
 have HB0 := zaa hb0
 have HAT := zaa hat0
 have HLR := zaa hlr0
 have HLRW := zaa hlr
 have HN := zaa (And.intro hbL (And.intro hUb (And.intro hUL hgU)))
 have HRD := zaa hrd
 have HW0 := zaa hW0
 clear hdk hcalm hlr hu hb0 hat0 hlr0 hW0 hbL hUb hUL hgU hblk hrd hhi
 go_enter Tryz.func144, Tryz.ntmps144
 go_wp2_with fail
 rw [<- HW0.out]
 go_quiet (first | ((go_at_call 237; exact zco (BL.out _))))
 go_wp2_with fail
 clear lk q1 q2 q3 BL mB
 obtain ⟨W1, hW1⟩ : ∃ W1, W1 = W0.drewN nq := ⟨_, rfl⟩
 rw [<- hW1]
 have hO1 : Only (· = U) W0 W1 := by rw [hW1]; exact (Only.refl _ W0).drewN nq
 obtain ⟨w1, hrun, hu1, ho1, hs1⟩ := zg1 (w := W1.drew) (by have := (HU.out.below (zad HB0.out nq)).below (Below.refl _ _).drew; rwa [<- hW1] at this) blk
 have e0 := (hO1.cell (p := ⟨w.heap.size, 0, none⟩) (show w.heap.size < W0.heap.size from hz0) (show ¬ w.heap.size = U by omega)).trans a0
 have e2 := (hO1.cell (p := ⟨L, 2, none⟩) (show L < W0.heap.size by omega) (show ¬ L = U from fun e => HN.out.2.2.1 e.symm)).trans b2
 have hOA : Only (· = U) W0 w1 := hO1.drew.trans ho1
 clear hW1 hO1
 have hlr1 : LrAt w1 L b G U keys := HLR.out.only hOA (fun e => HN.out.2.2.1 e.symm)
 have hat1 : Blk w1 w.heap.size 134 #[.int .i64 blk, .int .u32 gen] := HAT.out.only hOA (by omega)
 have c0 := zab hat1 0 rfl
 have c1 := zab hat1 1 rfl
 have d0 := zab hlr1 0 rfl
 have d2 := zab hlr1 2 rfl
 have hd1 : Dk w1 K b g base n cv m bytes cache := by
  refine (HDK.out.below HB0.out).only hOA (fun x hx e => ?_)
  rcases hx with h | h | h
  . exact HN.out.2.1 (e.symm.trans h)
  . exact HN.out.2.2.2 (e.symm.trans h)
  . exact HU.out.not_own HDK.out.own (by rw [<- h, e])
 have HU1 := zaa hu1
 have HOA := zaa hOA
 have HLR1 := zaa hlr1
 have HAT1 := zaa hat1
 have HD1 := zaa hd1
 clear hu1 ho1 hs1 hOA hlr1 hat1 hd1
 go_region_held3 (fun w' => w'.cell? ⟨L, 2, none⟩ = some (.map (some U)) /\ w'.cell? ⟨w.heap.size, 0, none⟩ = some (.int .i64 blk)) (first | go_keep | exact ⟨d2, c0⟩) (fail)
 clear hrun a0 a1 b0 b1 b2 b3 e0 e2
 go_wp2_with fail
 have HR := zaa (zhd K b g base n blk cv m bytes cache w1.drew HD1.out.drew HCA.out.bad (by omega) (by omega))
 unfold vol at HR
 go_region_held3 (fun w' => w'.cell? ⟨L, 0, none⟩ = some (.iface 23 (.pointer (some ⟨b, 0, none⟩))) /\ w'.cell? ⟨w.heap.size, 0, none⟩ = some (.int .i64 blk) /\ w'.cell? ⟨w.heap.size, 1, none⟩ = some (.int .u32 gen)) (first | go_keep | exact ⟨i0, i1, i2⟩ | exact ⟨j0, j1, j2⟩) (first
  | (go_at_call 172; refine HR.out.mono ?_; rintro e w2 ⟨g', rfl, hd2, hg2, hz2, ho2⟩
     have hOB : Only (· = b) w1 w2 := (Only.refl (· = b) w1).drew.trans ho2
     have hlr2 : LrAt w2 L b G U keys := HLR1.out.only hOB (fun e => HN.out.1 e.symm)
     have hat2 : Blk w2 w.heap.size 134 #[.int .i64 blk, .int .u32 gen] := HAT1.out.only hOB (by omega)
     have i0 := zab hlr2 0 rfl
     have i1 := zab hat2 0 rfl
     have i2 := zab hat2 1 rfl
     have hu2 := HU1.out.only hOB (fun e => HN.out.2.1 e)
     have HP := zaa (zwc g' blk gen _ w2 hg2 HRD.out.1 HRD.out.2)
     have HOB := zaa hOB
     have HLR2 := zaa hlr2
     have HAT2 := zaa hat2
     have HD2 := zaa hd2
     have HU2 := zaa hu2
     clear hOB hlr2 hat2 hd2 hu2 hg2 hz2 ho2)
  | (go_at_call 173; refine HP.out.mono ?_; rintro e w3 ⟨rfl, hb3⟩
     have j0 := za1 i0 hb3
     have j1 := za1 i1 hb3
     have j2 := za1 i2 hb3
     have HB3 := zaa hb3
     skip
     clear hb3))
 go_wp2_with fail
 go_quiet (fail)
 go_wp2
 go_ret2
 refine ⟨rfl, (HD2.out.below HB3.out).below (zad (Below.refl _ _) _), ?_⟩
 exact ((((Only.of_below HB0.out).trans (HOA.out.mono fun x _ h => .inr (.inl h))).trans (HOB.out.mono fun x _ h => .inl h)).below HB3.out).drewN _
def z2l (lo : Str) (es : List (Str × Str)) (W : World) (s14 s100 : Value) (wr : World) : Prop := ∃ k : Nat, k <= es.length /\ s100 = .int .i64 k /\ s14 = .string (zfa lo es k) /\ Below W.heap.size W wr
theorem zum {lo : Str} {hi : Option Str} {es : List (Str × Str)} (hw : LeafWF lo hi es) (k : Nat) (hk : k < es.length) : Op.bytesLess es[k].1.toList (zfa lo es k).toList = false /\ (0 < k -> (es[k].1.toList == (zfa lo es k).toList) = false) /\ (∀ b, hi = some b -> Op.bytesLess es[k].1.toList b.toList = true) := by
 obtain ⟨hr, hall⟩ := hw
 have hx := hall es[k] (List.getElem_mem hk)
 refine ⟨?_, fun h0 => ?_, fun b hb => hx.2.1 b hb⟩
 . by_cases h0 : k = 0
   . subst h0
     rw [zif]
     exact hx.1
   . obtain ⟨j, rfl⟩ : ∃ j, k = j + 1 := ⟨k - 1, by omega⟩
     rw [zdp lo es j (by omega)]
     have h1 : slt es[j].1 es[j + 1].1 = true := List.pairwise_iff_getElem.1 hr j (j + 1) (by omega) hk (by omega)
     exact zbt h1
 . obtain ⟨j, rfl⟩ : ∃ j, k = j + 1 := ⟨k - 1, by omega⟩
   rw [zdp lo es j (by omega)]
   have h1 : slt es[j].1 es[j + 1].1 = true := List.pairwise_iff_getElem.1 hr j (j + 1) (by omega) hk (by omega)
   have := ze3 (zfz h1).symm
   exact this
set_option maxHeartbeats 4000000 in
theorem zwd (K b g base n : Nat) (cv : Value) (m : Nums) (bytes : List UInt8) (cache : List (Nat × List UInt8)) (L U G blk gen deep : Nat) (keys : Int) (Lu : List Nat) (lo : Str) (hi : Option Str) (es : List (Str × Str)) (w : World) (hpre : zqf w K b g base n cv m bytes cache L U G keys Lu)
   (h2 : 2 <= blk) (hbn : blk < n) (hgg : gen <= G) (hblk : blk ∉ Lu) (hdeep : deep <= 40) (hhi : ∀ k, hi = some k -> k ≠ ByteArray.empty) (hrd : dread bytes cache blk = zfo blk gen 1 es.length (es.flatMap pby)) (hw : LeafWF lo hi es) (hes : lsum es <= 116) (h1 : 1 <= es.length) :
   Calls Tryz.prog 144 #[.pointer (some ⟨L, 0, none⟩), .agg #[.int .i64 blk, .int .u32 gen], .string lo, .string (hiS hi), .int .i64 deep] w fun e w' => ∃ b' pv, e = .returned (.tuple #[P b', .bool true]) /\ w.heap.size <= b' /\ NodeAt w' b' blk gen false pv (.slice none 0 0) /\ w'.ownsRow w.heap.size 68 2 pv es.length (pcells es) /\ LrAt w' L b G U (keys + es.length) /\ UsedAt w' U (ins Lu blk) /\ Dk w' (K + 1) b g base n cv m.tick bytes cache /\ Only (fun x => x = b \/ x = U \/ x = L) w w' := by
 have hok : ∀ e ∈ es, zb1 e.1 /\ okVal e.2 := fun e he => (hw.2 e he).2.2
 have hlen := zk1 es
 have hlen2 : es.length <= 58 := by omega
 have HOK := zaa hok
 have HES := zaa hes
 have HWF := zaa hw
 clear hok hes hw
 obtain ⟨hdk, hcalm, hlr, hu, hn1, hn2, hnum, hG, hk0, hk1⟩ := hpre
 have mB := zfi
 have hbw : b < w.heap.size := hdk.at_.lt
 have hLw : L < w.heap.size := Blk.lt hlr
 have hUw : U < w.heap.size := hu.lt
 have hbL : ¬ b = L := fun e => Blk.ne_ hdk.at_ hlr (by decide) e
 have hUb : ¬ U = b := hu.ne_blk hdk.at_
 have hUL : ¬ U = L := hu.ne_blk hlr
 have hgU : ¬ U = g := hu.ne_blk hdk.blk
 obtain ⟨W0, hW0⟩ : ∃ W0, W0 = w.alloc (.cells #[.int .i64 blk, .int .u32 gen] 134) := ⟨_, rfl⟩
 have hb0 : Below w.heap.size w W0 := by rw [hW0]; exact (Below.refl _ _).alloc (Nat.le_refl _) _
 have hat0 : Blk W0 w.heap.size 134 #[.int .i64 blk, .int .u32 gen] := by rw [hW0]; exact Blk.new _ _ _
 have hlr0 := hlr.below hb0 hLw
 have hz0 : w.heap.size < W0.heap.size := hat0.lt
 have a0 := zab hat0 0 rfl
 have a1 := zab hat0 1 rfl
 have b0 := zab hlr0 0 rfl
 have b1 := zab hlr0 1 rfl
 have b2 := zab hlr0 2 rfl
 have b3 := zab hlr0 3 rfl
 have BL := zaa (fun k => zd8 b n (zdb bytes) (some ⟨g, 0, none⟩) cv m (W0.drewN k) (hdk.below (zad hb0 k)).at_)
 have lk := fun k => zhl (hu.below (zad hb0 k)) blk
 rw [if_neg hblk] at lk
 have q1 : (2 : Int) <= (blk : Int) := by omega
 have q2 : (blk : Int) < (n : Int) := by omega
 have q3 : (gen : Int) <= (G : Int) := by omega
 have q4 : (deep : Int) <= 40 := by omega
 have HHI := zaa hhi
 have HDK := zaa hdk
 have HCA := zaa hcalm
 have HU := zaa hu
 have HB0 := zaa hb0
 have HAT := zaa hat0
 have HLR := zaa hlr0
 have HLRW := zaa hlr
 have HN := zaa (And.intro hbL (And.intro hUb (And.intro hUL hgU)))
 have HRD := zaa hrd
 have HW0 := zaa hW0
 clear hdk hcalm hlr hu hb0 hat0 hlr0 hW0 hbL hUb hUL hgU hblk hrd hhi
 go_enter Tryz.func144, Tryz.ntmps144
 go_wp2_with fail
 rw [<- HW0.out]
 go_quiet (first | ((go_at_call 237; exact zco (BL.out _))))
 go_wp2_with fail
 clear lk q1 q2 q3 BL mB
 obtain ⟨W1, hW1⟩ : ∃ W1, W1 = W0.drewN nq := ⟨_, rfl⟩
 rw [<- hW1]
 have hO1 : Only (· = U) W0 W1 := by rw [hW1]; exact (Only.refl _ W0).drewN nq
 obtain ⟨w1, hrun, hu1, ho1, hs1⟩ := zg1 (w := W1.drew) (by have := (HU.out.below (zad HB0.out nq)).below (Below.refl _ _).drew; rwa [<- hW1] at this) blk
 have e0 := (hO1.cell (p := ⟨w.heap.size, 0, none⟩) (show w.heap.size < W0.heap.size from hz0) (show ¬ w.heap.size = U by omega)).trans a0
 have e2 := (hO1.cell (p := ⟨L, 2, none⟩) (show L < W0.heap.size by omega) (show ¬ L = U from fun e => HN.out.2.2.1 e.symm)).trans b2
 have hOA : Only (· = U) W0 w1 := hO1.drew.trans ho1
 clear hW1 hO1
 have hlr1 : LrAt w1 L b G U keys := HLR.out.only hOA (fun e => HN.out.2.2.1 e.symm)
 have hat1 : Blk w1 w.heap.size 134 #[.int .i64 blk, .int .u32 gen] := HAT.out.only hOA (by omega)
 have c0 := zab hat1 0 rfl
 have c1 := zab hat1 1 rfl
 have d0 := zab hlr1 0 rfl
 have d2 := zab hlr1 2 rfl
 have hd1 : Dk w1 K b g base n cv m bytes cache := by
  refine (HDK.out.below HB0.out).only hOA (fun x hx e => ?_)
  rcases hx with h | h | h
  . exact HN.out.2.1 (e.symm.trans h)
  . exact HN.out.2.2.2 (e.symm.trans h)
  . exact HU.out.not_own HDK.out.own (by rw [<- h, e])
 have HU1 := zaa hu1
 have HOA := zaa hOA
 have HLR1 := zaa hlr1
 have HAT1 := zaa hat1
 have HD1 := zaa hd1
 clear hu1 ho1 hs1 hOA hlr1 hat1 hd1
 go_region_held3 (fun w' => w'.cell? ⟨L, 2, none⟩ = some (.map (some U)) /\ w'.cell? ⟨w.heap.size, 0, none⟩ = some (.int .i64 blk)) (first | go_keep | exact ⟨d2, c0⟩) (fail)
 clear hrun a0 a1 b0 b1 b2 b3 e0 e2
 go_wp2_with fail
 have HR := zaa (zhd K b g base n blk cv m bytes cache w1.drew HD1.out.drew HCA.out.bad (by omega) (by omega))
 unfold vol at HR
 go_region_held3 (fun w' => w'.cell? ⟨L, 0, none⟩ = some (.iface 23 (.pointer (some ⟨b, 0, none⟩))) /\ w'.cell? ⟨w.heap.size, 0, none⟩ = some (.int .i64 blk) /\ w'.cell? ⟨w.heap.size, 1, none⟩ = some (.int .u32 gen)) (first | go_keep | exact ⟨i0, i1, i2⟩ | exact ⟨j0, j1, j2⟩) (first
  | (go_at_call 172; refine HR.out.mono ?_; rintro e w2 ⟨g', rfl, hd2, hg2, hz2, ho2⟩
     have hOB : Only (· = b) w1 w2 := (Only.refl (· = b) w1).drew.trans ho2
     have hlr2 : LrAt w2 L b G U keys := HLR1.out.only hOB (fun e => HN.out.1 e.symm)
     have hat2 : Blk w2 w.heap.size 134 #[.int .i64 blk, .int .u32 gen] := HAT1.out.only hOB (by omega)
     have i0 := zab hlr2 0 rfl
     have i1 := zab hat2 0 rfl
     have i2 := zab hat2 1 rfl
     have hu2 := HU1.out.only hOB (fun e => HN.out.2.1 e)
     rw [HRD.out] at hg2
     have HP := zaa (zt6 g' blk gen es w2 hg2 HES.out HOK.out (by omega) (by omega))
     have HOB := zaa hOB
     have HLR2 := zaa hlr2
     have HAT2 := zaa hat2
     have HD2 := zaa hd2
     have HU2 := zaa hu2
     clear hOB hlr2 hat2 hd2 hu2 hg2 hz2 ho2)
  | (go_at_call 173; refine HP.out.mono ?_; rintro e w3 ⟨b', pv, rfl, hbb, hnd, hown, hb3⟩
     have j0 := za1 i0 hb3
     have j1 := za1 i1 hb3
     have j2 := za1 i2 hb3
     have HB3 := zaa hb3
     have HND := zaa hnd
     have HOWN := zaa hown
     clear hnd hown
     clear hb3))
 have HO2S := zaa (show w.heap.size <= w2.heap.size from by have := HB0.out.size; have := HOA.out.size; have := HOB.out.size; omega)
 obtain ⟨A, c, rfl, hlc, hcm, _⟩ := zan HOWN.out
 have n3 : w3.cell? ⟨b', 3, none⟩ = some (.slice A es.length c) := zab HND.out 3 rfl
 have n4 : w3.cell? ⟨b', 4, none⟩ = some (.slice none 0 0) := zab HND.out 4 rfl
 have t1 : IntKind.i64.wrap ((es.length : Int) + 0) = (es.length : Int) := by rw [IntKind.wrap_i64]; omega
 have t2 : IntKind.i64.wrap ((es.length : Int)) = (es.length : Int) := by rw [IntKind.wrap_i64]; omega
 have t3 : ((es.length : Int) == 0) = false := by rw [beq_eq_false_iff_ne]; omega
 unfold P
 go_wp2_with fail
 go_quiet (fail)
 obtain ⟨W3, hW3⟩ : ∃ W3, W3 = w3.drewN nq := ⟨_, rfl⟩
 rw [<- hW3]
 have hb33 : Below w3.heap.size w3 W3 := by rw [hW3]; exact zad (Below.refl _ _) nq
 have n3' := za1 n3 hb33
 have n4' := za1 n4 hb33
 have hown3 := zbx HOWN.out hb33
 obtain ⟨gp, cur, rfl, hgp, hcur, htk, hcs, _, _⟩ := zb0 hown3 (by omega)
 have HPC := zaa (show ∀ k (hk : k < es.length), W3.cell? ⟨gp, k * 2, none⟩ = some (.string es[k].1) /\ W3.cell? ⟨gp, k * 2 + 1, none⟩ = some (.string es[k].2) from fun k hk => by
  obtain ⟨p1, p2⟩ := zct es k hk
  rw [<- htk] at p1 p2
  rw [List.getElem?_take] at p1 p2
  rw [if_pos (by omega)] at p1 p2
  exact ⟨by rw [hcur.cell, <- Array.getElem?_toList]; exact p1, by rw [hcur.cell, <- Array.getElem?_toList]; exact p2⟩)
 have HOWN3 := zaa hown3
 have HB33 := zaa hb33
 clear t1 t2 n3 n4 hW3 hb33 hown3 htk hcs hcur
 obtain ⟨H, hH⟩ : ∃ H, H = hiS hi := ⟨_, rfl⟩
 rw [<- hH]
 have HH := zaa hH
 clear hH
 go_wp2
 go_loopw [14, 100] (fun s14 s100 wr => z2l lo es W3 s14 s100 wr) (fun _ s _ => es.length - (intOf s).toNat)
 case atStart => exact ⟨0, Nat.zero_le _, rfl, by rw [zif], Below.refl _ _⟩
 case round =>
  obtain ⟨k, hk, rfl, rfl, hbr⟩ := hrel
  by_cases hlt : k < es.length
  . have k1 : (k : Int) < (es.length : Int) := by omega
    have k0 : (0 : Int) <= (k : Int) := by omega
    obtain ⟨p0, p1⟩ := HPC.out k hlt
    have c0 := za1 p0 hbr
    have c1 := za1 p1 hbr
    obtain ⟨t1, t2, t3⟩ := zum HWF.out k hlt
    have hls := zdp lo es k hlt
    obtain ⟨x, hx⟩ : ∃ x, x = es[k] := ⟨_, rfl⟩
    rw [<- hx] at c0 c1 t1 hls
    simp only [<- hx] at t2 t3
    obtain ⟨la, hla⟩ : ∃ la, la = zfa lo es k := ⟨_, rfl⟩
    rw [<- hla] at t1 t2 ⊢
    have HLS := zaa hls
    have HBR := zaa hbr
    have HT2 := zaa t2
    have hh : H.toList = [] \/ (¬ H.toList = [] /\ H.toList.isEmpty = false /\ Op.bytesLess x.1.toList H.toList = true) := by
     have hH := HH.out
     cases hi with
     | none => left; rw [hH]; show ByteArray.toList ⟨#[]⟩ = []; rw [zcs]
     | some b1 =>
       right
       have hne : ¬ H.toList = [] := fun e => HHI.out b1 rfl (by have : H = b1 := hH; rw [<- this]; exact zh1 (by rw [e, zcs]; rfl))
       refine ⟨hne, by cases hl : H.toList with | nil => exact absurd hl hne | cons _ _ => rfl, ?_⟩
       rw [show H = b1 from hH]
       exact t3 b1 rfl
    clear hls hbr hx hla p0 p1 t2 t3
    rcases hh with hh | ⟨hh1, hh2, hh3⟩ <;> by_cases hk0 : 0 < k
    all_goals
     first | (have e2 := HT2.out hk0; have e1 : ¬ x.1.toList = la.toList := by intro e; rw [e] at e2; simp at e2) | skip
     go_wp2
     go_roundw
     case rel => exact ⟨k + 1, by omega, by go_num, by rw [HLS.out], HBR.out.alloc HBR.out.size _⟩
     case measure => simp [intOf]; omega
  . obtain rfl : k = es.length := by omega
    have kk : ¬ (es.length : Int) < (es.length : Int) := by omega
    have hb3r : Below w2.heap.size w2 wr := (HB3.out.trans (HB33.out.mono HB3.out.size)).trans (hbr.mono (by have := HB3.out.size; have := HB33.out.size; omega))
    have hlr3 : LrAt wr L b G U keys := HLR2.out.below hb3r (Blk.lt HLR2.out)
    have l3 := zab hlr3 3 rfl
    have l3f : wr.frozen? ⟨L, 3, none⟩ = false := Blk.frozen hlr3 3
    have n3r := za1 n3' hbr
    have n4r := za1 n4' hbr
    have t1 : IntKind.i64.wrap (keys + (es.length : Int)) = keys + (es.length : Int) := by rw [IntKind.wrap_i64]; omega
    have HB3R := zaa hb3r
    have HBR := zaa hbr
    have HL3 := zaa hlr3
    clear hb3r hbr hlr3
    go_wp2_with fail
    go_region
    obtain ⟨WE, hWE⟩ : ∃ WE, WE = (wr.setCell ⟨L, 3, none⟩ (.int .i64 (keys + (es.length : Int)))).drew := ⟨_, rfl⟩
    rw [<- hWE]
    have hOE : Only (· = L) wr WE := by rw [hWE]; exact (Only.set1 _ _ _ _).drew
    have hlrE : LrAt WE L b G U (keys + es.length) := by rw [hWE]; exact (Blk.set_ HL3.out 3 _).drew
    have hbl : ¬ b' = L := by have := HO2S.out; omega
    have hbr : b' < wr.heap.size := by have := Blk.lt HND.out; have := HB33.out.size; have := HBR.out.size; omega
    have n4e : WE.cell? ⟨b', 4, none⟩ = some (.slice none 0 0) := (hOE.cell (p := ⟨b', 4, none⟩) hbr hbl).trans n4r
    have HOE := zaa hOE
    have HLE := zaa hlrE
    clear hOE hlrE hWE n3r n4r l3 l3f t1
    go_wp2
    refine wp_loop_rounds 1 ?_
    rw [rounds_succ]
    go_wp2
    go_ret2
    have hT : Only (fun x => x = b \/ x = U \/ x = L) w WE := (((((Only.of_below HB0.out).trans (HOA.out.mono fun x _ h => .inr (.inl h))).trans (HOB.out.mono fun x _ h => .inl h)).below HB3R.out).trans (HOE.out.mono fun x _ h => .inr (.inr h)))
    have hnd3 : NodeAt WE b' blk gen false (.slice (some ⟨gp, 0, none⟩) es.length c) (.slice none 0 0) := (((HND.out.below HB33.out HND.out.lt).below HBR.out (Nat.lt_of_lt_of_le HND.out.lt HB33.out.size))).only HOE.out hbl
    refine ⟨b', _, rfl, by have := HO2S.out; omega, hnd3, ?_, HLE.out, ?_, ?_, hT⟩
    . exact za0 (zny (zbx HOWN3.out HBR.out) HO2S.out) HOE.out (fun y cs hy e => Blk.ne_ hy HL3.out (by decide) e)
    . exact (HU2.out.below HB3R.out).only HOE.out (fun e => HN.out.2.2.1 e)
    . exact (HD2.out.below HB3R.out).only HOE.out (fun x hx e => by
     rcases hx with h | h | h
     . exact HN.out.1 (h.symm.trans e)
     . exact Blk.ne_ HDK.out.blk (show Blk w L _ _ from HLRW.out) (by decide) (h.symm.trans e)
     . exact zag HDK.out.own HLRW.out (by decide) (by rw [<- h, e]))
def Q0 (h : Nat) (n : Tr h) : Prop := Tr.size h n <= 116 /\ (h = 0 \/ 1 <= Tr.len h n)
def Q3 (n0 : Nat) (h : Nat) (n : Tr h) : Prop := Q0 h n /\ zc4 h n /\ (Tr.dirty h n = true -> Tr.blk h n < n0)
theorem zqh {xs : List Nat} {n0 : Nat} (h0 : 0 < n0) (h : ∀ x ∈ xs, x < n0) : xs.headD 0 < n0 /\ xs.getLastD 0 < n0 := by
 refine ⟨?_, ?_⟩
 . cases xs with
   | nil => exact h0
   | cons a l => exact h a (by simp)
 . cases xs with
   | nil => exact h0
   | cons a l =>
     rw [List.getLastD_cons]
     rcases List.eq_nil_or_concat l with rfl | ⟨l', b, rfl⟩
     . exact h a (by simp)
     . have : (l'.concat b).getLastD a = b := by simp
       rw [this]
       exact h b (by simp)
theorem zqi {n0 : Nat} : ∀ (h : Nat) (c : Tr h), NS Q0 h c -> NS zc4 h c -> zae h c = 0 -> NS (Q3 n0) h c
 | 0, c, h1, h2, h3 => ⟨h1, h2, fun hd => by
  have : zae 0 c = 1 := if_pos hd
  omega⟩
 | h + 1, c, h1, h2, h3 => by
   have hc : (if Nd.dirty c then 1 else 0) + zak h (Nd.es c) = 0 := h3
   refine ⟨⟨h1.1, h2.1, fun hd => by rw [if_pos (show Nd.dirty c = true from hd)] at hc; omega⟩, fun e he => zqi h e.2 (h1.2 e he) (h2.2 e he) ?_⟩
   have : ∀ (X : List (Str × Tr h)), zak h X = 0 -> ∀ e ∈ X, zae h e.2 = 0 := by
    intro X
    induction X with
    | nil => intro _ e he; cases he
    | cons a X ih =>
      intro h0 e he
      rw [zbi] at h0
      rcases List.mem_cons.1 he with rfl | he
      . omega
      . exact ih (by omega) e he
   exact this _ (by omega) e he
theorem zqj {g n0 : Nat} {d : Bool} (hg : g < 4294967296) (h0 : 0 < n0) (hn0 : n0 <= 65536) : ∀ (h : Nat) (n : Tr h) (xs : List Nat), NS Q0 h n -> NS zc4 h n -> (∀ x ∈ xs, x < n0) -> NS (Q3 n0) h (lay g d h n xs) \/ Tr.dirty h n = false /\ zae h n = 0
 | 0, n, xs, hq, hs, hx => by
   by_cases hd : Nd.dirty n = true
   . left
     rw [zcy xs hd]
     have := (zqh h0 hx).1
     exact ⟨hq, ⟨by show xs.headD 0 < 65536; omega, hg⟩, fun _ => this⟩
   . exact .inr ⟨show Nd.dirty n = false by simpa using hd, if_neg hd⟩
 | h + 1, n, xs, hq, hs, hx => by
   left
   have hk : ∀ (X : List (Str × Tr h)) (ys : List Nat), (∀ e ∈ X, NS Q0 h e.2) -> (∀ e ∈ X, NS zc4 h e.2) -> (∀ x ∈ ys, x < n0) -> ∀ e ∈ za3 (lay g d h) X ys, NS (Q3 n0) h e.2 := by
    intro X
    induction X with
    | nil => intro ys _ _ _ e he; cases he
    | cons a X ih =>
      intro ys h1 h2 h3 e he
      obtain ⟨k, c⟩ := a
      simp only [za3] at he
      rcases List.mem_cons.1 he with rfl | he
      . rcases zqj hg h0 hn0 h c (ys.take (zae h c)) (h1 (k, c) (by simp)) (h2 (k, c) (by simp)) (fun x hx => h3 x (List.mem_of_mem_take hx)) with h | ⟨e1, e2⟩
        . exact h
        . have := zd4 g d h c (ys.take (zae h c)) e2
          simp only
          rw [this]
          exact zqi h c (h1 (k, c) (by simp)) (h2 (k, c) (by simp)) e2
      . exact ih _ (fun e he => h1 e (by simp [he])) (fun e he => h2 e (by simp [he])) (fun x hx => h3 x (List.mem_of_mem_drop hx)) e he
   have hkk := hk (Nd.es n) xs (fun e he => hq.2 e he) (fun e he => hs.2 e he) hx
   have hsz : ksum (za3 (lay g d h) (Nd.es n) xs) = ksum (Nd.es n) := (LikeL.ksum (zf4 (zc8 g d h) (Nd.es n) xs)).symm
   have hln : (za3 (lay g d h) (Nd.es n) xs).length = (Nd.es n).length := zlb _ _
   have hq1 : ksum (Nd.es n) <= 116 := hq.1.1
   have hq2 : h + 1 = 0 \/ 1 <= (Nd.es n).length := hq.1.2
   by_cases hd : Nd.dirty n = true
   . rw [zcb xs hd]
     have := (zqh h0 hx).2
     exact ⟨⟨⟨by show ksum _ <= 116; rw [hsz]; exact hq1, by show _ \/ 1 <= List.length _; rw [hln]; exact hq2⟩, ⟨by show xs.getLastD 0 < 65536; omega, hg⟩, fun _ => this⟩, hkk⟩
   . rw [zc7 xs hd]
     exact ⟨⟨⟨by show ksum _ <= 116; rw [hsz]; exact hq1, by show _ \/ 1 <= List.length _; rw [hln]; exact hq2⟩, hs.1, fun h => absurd h hd⟩, hkk⟩
theorem zkg : ∀ (h : Nat) (n : Tr h), ∀ x ∈ dlist h n, Tr.dirty x.1 x.2 = true
 | 0, n, x, hx => by
   unfold dlist at hx
   split at hx
   . rename_i hd; rw [List.mem_singleton.1 hx]; exact hd
   . cases hx
 | h + 1, n, x, hx => by
   rcases List.mem_append.1 (show x ∈ ((Nd.es n).flatMap fun e => dlist h e.2) ++ (if Nd.dirty n then [⟨h + 1, n⟩] else []) from hx) with hx | hx
   . obtain ⟨e, he, hx⟩ := List.mem_flatMap.1 hx
     exact zkg h e.2 x hx
   . split at hx
     . rename_i hd; rw [List.mem_singleton.1 hx]; exact hd
     . cases hx
theorem NS.parts {n0 : Nat} {h : Nat} {n : Tr h} (hn : NS (Q3 n0) h n) (hd : Tr.dirty h n = true) : zxx n0 ⟨h, n⟩ :=
 ⟨hn.here.1.1, hn.here.1.2, hn.mono fun _ _ h => h.2.1, hn.here.2.2 hd⟩
theorem zzu {t : Tree} {g n0 : Nat} {xs : List Nat} (hg : g < 4294967296) (h0 : 0 < n0) (hn0 : n0 <= 65536) (hq : TN Q0 t) (hs : TN zc4 t) (hx : ∀ x ∈ xs, x < n0) : TN (Q3 n0) (t.lay g true xs) /\ ∀ x ∈ (t.lay g true xs).dlist, zxx n0 x := by
 have h1 : TN (Q3 n0) (t.lay g true xs) := by
  intro h n hr
  unfold Tree.lay at hr
  cases h' : t.root with
  | none => rw [h'] at hr; cases hr
  | some r =>
    rw [h'] at hr
    simp only [Option.map_some, Option.some.injEq] at hr
    cases hr
    rcases zqj hg h0 hn0 r.1 r.2 xs (hq r.1 r.2 h') (hs r.1 r.2 h') hx with h | ⟨_, e2⟩
    . exact h
    . rw [zd4 g true r.1 r.2 xs e2]; exact zqi r.1 r.2 (hq r.1 r.2 h') (hs r.1 r.2 h') e2
 refine ⟨h1, fun x hx => ?_⟩
 unfold Tree.dlist at hx
 cases hr : (t.lay g true xs).root with
 | none => rw [hr] at hx; cases hx
 | some r =>
   rw [hr] at hx
   exact (zid r.1 r.2 (h1 r.1 r.2 hr) x hx).parts (zkg r.1 r.2 x hx)
theorem zxz {t : Tree} {g n0 : Nat} {xs : List Nat} (h : TN (Q3 n0) (t.lay g true xs)) : (t.lay g true xs).rblk < 4294967296 /\ (t.lay g true xs).rgen < 4294967296 := by
 unfold Tree.rblk Tree.rgen
 cases hr : (t.lay g true xs).root with
 | none => exact ⟨by show 0 < 4294967296; omega, by show 0 < 4294967296; omega⟩
 | some r =>
   have := (h r.1 r.2 hr).here.2.1
   exact ⟨by have := this.1; show Tr.blk r.1 r.2 < 4294967296; omega, this.2⟩
def NdS.at_ (s : NdS) (x g : Nat) : NdS := { s with blk := x, gen := g }
structure z1j (W : World) (H K b g base n : Nat) (cv : Value) (m : Nums) (bytes : List UInt8) (cache : List (Nat × List UInt8)) (dk : Nat) (hd : Hd) (ds : List Nat) (s : Nat -> NdS) (T : Tree) (q0 : Option Addr) (L : List Nat) : Prop where
 mid : ComMid W H K b g base n cv m bytes cache dk hd ds s
 used : UsedJ H (H + 1 + 1 + 1 + 1) (H + 1 + 1 + 1) L W
 tree : TreeV (fun z => z < H) W T (.pointer q0) ds
 dirty_ : ∀ j, j < ds.length -> (s j).dirty = true
 q0_ : TN Q0 T
 small : TN zc4 T
 nle : n <= 400
 room : ds.length <= (fr L n 2).length
 num : K + ds.length + 5 < zbf
 cach : cache.length + ds.length < 90000
def z2m (W : World) (n : Nat) (L xs ds : List Nat) (s t : Nat -> NdS) (s12 s47 : Value) (wr : World) : Prop :=
 ∃ k a : Nat, k <= ds.length /\ s47 = .int .i64 k /\ s12 = .int .i64 a /\ a <= n /\ fr L n a = xs.drop k /\ Half wr ds k s t /\ Only (· ∈ ds) W wr
theorem Blk.same {w : World} {y : Nat} {T : TypeId} {a b : Array Value} (h : Blk w y T a) (k : Blk w y T b) : a = b := by
 unfold Blk at h k
 rw [h] at k
 injection k with k
 injection k with k
theorem zx0 {W wc : World} {H : Nat} {ds xs : List Nat} {s : Nat -> NdS} {gn : Nat} (hs : ∀ j (hj : j < ds.length), zb3 W ds[j] (s j)) (hd : ∀ j, j < ds.length -> (s j).dirty = true) (hnd : ds.Nodup) (ht : ∀ j (hj : j < ds.length), zb3 wc ds[j] ((s j).at_ (xs.getD j 0) gn)) (ho : Only (· ∈ ds) W wc) :
   Laid (fun z => z < H) ds (fun y => xs.getD (ds.idxOf y) 0) gn true W wc := by
 refine ⟨fun y hy => ?_, fun y hy blk gen pv kv hn => ?_, fun y _ hn hl => ho.block y hl hn⟩
 . obtain ⟨j, hj, rfl⟩ := List.getElem_of_mem hy
   have := hs j hj
   unfold zb3 at this
   rw [hd j hj] at this
   exact ⟨_, _, _, _, this⟩
 . obtain ⟨j, hj, rfl⟩ := List.getElem_of_mem hy
   have e := Blk.same (hs j hj) hn
   simp only [Array.mk.injEq, List.cons.injEq, Value.int.injEq, true_and, and_true] at e
   have hi : ds.idxOf ds[j] = j := hnd.idxOf_getElem j hj
   have := ht j hj
   unfold zb3 NdS.at_ at this
   simp only at this
   rw [hd j hj] at this
   simp only [hi]
   rw [<- e.2.2.2.1, <- e.2.2.2.2]
   exact this
theorem zs5 {ds xs : List Nat} (hnd : ds.Nodup) (hl : ds.length <= xs.length) : ds.map (fun y => xs.getD (ds.idxOf y) 0) = xs.take ds.length := by
 apply List.ext_getElem
 . rw [List.length_map, List.length_take]; omega
 . intro j h1 h2
   rw [List.length_map] at h1
   simp only [List.getElem_map, List.getElem_take]
   rw [hnd.idxOf_getElem j h1, List.getD_eq_getElem?_getD, List.getElem?_eq_getElem (by omega)]
   rfl
set_option maxHeartbeats 6400000 in
theorem zzv (F : Nat -> Prop) (H K b g base n : Nat) (cv : Value) (m : Nums) (bytes : List UInt8) (cache : List (Nat × List UInt8)) (dk : Nat) (hd : Hd) (ds : List Nat) (s : Nat -> NdS) (T : Tree) (L : List Nat) (sl gn : Nat) (q0 : Option Addr) (keys : Int) (W₀ W : World) (hF : ∀ x, dfp b g cv x -> F x \/ H <= x) (hW : Only (fun y => F y \/ y = dk \/ y ∈ ds \/ H <= y) W₀ W) (h : z1j W H K b g base n cv m bytes cache dk hd ds s T q0 L)
   (h4 : Blk W H 88 #[.pointer q0, .int .i64 keys]) (h7 : Blk W (H + 1 + 1) 149 (zay sl gn 0 0)) (hsl : sl < 2) (hgn : gn < 4294967296)
   (T1 : Tree) (hT1 : T1 = T.lay gn true ((fr L n 2).take ds.length))
   (u1 u2 u3 u5 u10 u11 u13 u14 u15 u16 u17 u18 u19 u20 u21 u22 u23 u24 u25 u26 u27 u28 u29 u30 u31 u32 u33 u34 u35 u36 u37 u38 u39 u40 u41 u42 u43 u44 u45 u46 u47 u48 u49 u50 u51 u52 u53 u54 u55 u56 u57 u58 u59 u60 u61 u62 u63 u64 u65 u66 u67 u68 u69 u70 u71 u72 u73 u74 u75 u76 u77 u78 u79 u80 u81 u82 u83 u84 u85 u86 u87 u88 u89 u90 u91 u92 u93 u94 u95 u96 u97 u98 u99 u100 u101 u102 u103 u104 u105 u106 u107 u108 u109 u110 u111 u112 u113 u114 u115 u116 u117 u118 u119 u120 u121 u122 u123 u124 u125 u126 u127 u128 u129 u130 u131 u132 u133 u134 u135 u136 u137 u138 u139 : Value) :
   Code.wp Tryz.prog (zld 8) (bodyPostD Tryz.prog Tryz.f60 (ComEnd F H K ds.length b g base n m bytes cache (zao T1) dk hd ds (fun j => (s j).at_ ((fr L n 2).getD j 0) gn) sl gn T1.rblk T1.rgen W₀)) ⟨#[.pointer (some ⟨dk, 0, none⟩), u1, u2, u3, .pointer (some ⟨H, 0, none⟩), u5, .pointer (some ⟨H + 1, 0, none⟩), .pointer (some ⟨H + 1 + 1, 0, none⟩), .pointer (some ⟨H + 1 + 1 + 1 + 1, 0, none⟩), .pointer (some ⟨H + 1 + 1 + 1 + 1 + 1, 0, none⟩), u10, u11, .int .i64 2, u13, u14, u15, u16, u17, u18, u19, u20, u21, u22, u23, u24, u25, u26, u27, u28, u29, u30, u31, u32, u33, u34, u35, u36, u37, u38, u39, u40, u41, u42, u43, u44, u45, u46, u47, u48, u49, u50, u51, u52, u53, u54, u55, u56, u57, u58, u59, u60, u61, u62, u63, u64, u65, u66, u67, u68, u69, u70, u71, u72, u73, u74, u75, u76, u77, u78, u79, u80, u81, u82, u83, u84, u85, u86, u87, u88, u89, u90, u91, u92, u93, u94, u95, u96, u97, u98, u99, u100, u101, u102, u103, u104, u105, u106, u107, u108, u109, u110, u111, u112, u113, u114, u115, u116, u117, u118, u119, u120, u121, u122, u123, u124, u125, u126, u127, u128, u129, u130, u131, u132, u133, u134, u135, u136, u137, u138, u139], [{ target := .fn (.func 90) #[.pointer (some ⟨H + 1, 0, none⟩), .pointer (some ⟨H + 1 + 1 + 1 + 1 + 1, 0, none⟩)], args := #[] }]⟩ W := by
 have mB := zfi
 obtain ⟨v, hv, hown⟩ := h.mid.dirt
 obtain ⟨A, c, rfl, hform⟩ := zan hown
 have x9 : W.cell? ⟨H + 1 + 1 + 1 + 1 + 1, 0, none⟩ = some (.slice A ds.length c) := zab hv 0 rfl
 have hc : ds.length <= c /\ c <= maxLen := ⟨hform.1, hform.2.1⟩
 obtain ⟨hc1, hc2⟩ := hc
 unfold maxLen at hc2
 have hlow := h.mid.low
 have hrow : ∀ wr, Only (· ∈ ds) W wr -> ∀ k (hk : k < ds.length), ∃ g', A = some ⟨g', 0, none⟩ /\ wr.cell? ⟨g', k, none⟩ = some (.pointer (some ⟨ds[k], 0, none⟩)) := by
  intro wr hr k hk
  cases hA : A with
  | none =>
    have := (hform.2.2.2 (by rw [hA]; rfl)).1
    omega
  | some a =>
    obtain ⟨e1, e2, e3, cur, e4, e5, e6⟩ := hform.2.2.1 a.block (by rw [hA]; rfl)
    rw [hA] at e3
    refine ⟨a.block, e3, ?_⟩
    rw [(hr.cell (p := ⟨a.block, k, none⟩) e2 (fun hm => by have h1 : a.block < H := hlow _ hm; omega)), e4.cell]
    have := congrArg (fun l => l[k]?) e6
    simp only [Nat.mul_one, List.getElem?_take, if_pos hk, List.getElem?_map, List.getElem?_eq_getElem hk, Option.map_some] at this
    rw [<- Array.getElem?_toList]
    exact this
 obtain ⟨xs, hxs⟩ : ∃ xs, xs = fr L n 2 := ⟨_, rfl⟩
 have hroom := h.room
 rw [<- hxs] at hroom hT1 ⊢
 have hds1 : ds.length <= 1000 := h.mid.few
 have hn2 : 2 <= n := h.mid.size
 have hn4 : n <= 400 := h.nle
 have hnd : ∀ {y T cs}, Blk W y T cs -> T ≠ 137 -> ¬ y ∈ ds := fun hy hT e => by
  obtain ⟨j, hj, e⟩ := List.getElem_of_mem e
  exact Blk.ne_ hy (h.mid.nodes j hj) hT e.symm
 have HND := zaa (show ∀ y T cs, Blk W y T cs -> T ≠ 137 -> ¬ y ∈ ds from fun _ _ _ a b => hnd a b)
 have HROW := zaa hrow
 have H0 := zaa h
 have H7 := zaa h7
 have H4 := zaa h4
 have HW := zaa hW
 have HXS := zaa hxs
 have HT1 := zaa hT1
 have HRM := zaa hroom
 have HLOW := zaa hlow
 clear h h7 hW h4 hv hown hform hrow hxs hT1 hroom hnd hlow
 conv => arg 2; whnf
 go_upto_block 2 with fail
 go_cut [12, 14] from 47 to 88 (fun s12 s14 wx => (∃ a : Nat, s12 = .int .i64 a) /\ Half wx ds ds.length s (fun j => (s j).at_ (xs.getD j 0) gn) /\ Only (· ∈ ds) W wx)
 case first =>
  go_wp2_with fail
  go_loopw [12, 47] (fun s12 s47 wr => z2m W n L xs ds s (fun j => (s j).at_ (xs.getD j 0) gn) s12 s47 wr) (fun _ s _ => ds.length - (intOf s).toNat)
  case atStart => exact ⟨0, 2, Nat.zero_le _, rfl, rfl, hn2, by rw [HXS.out]; rfl, Half.zero H0.out.mid.nodes, Only.refl _ _⟩
  case round =>
   obtain ⟨k, a, hk, rfl, rfl, han, hfr, hh, hon⟩ := hrel
   by_cases hlt : k < ds.length
   . obtain ⟨g', rfl, hcell⟩ := HROW.out wr hon k hlt
     have hnk : zb3 wr ds[k] (s k) := by have := hh k hlt; rwa [if_neg (Nat.lt_irrefl _)] at this
     obtain ⟨y, hy⟩ : ∃ y, y = ds[k] := ⟨_, rfl⟩
     rw [<- hy] at hcell hnk
     have hkx : k < xs.length := Nat.lt_of_lt_of_le hlt HRM.out
     have hdkw : Blk wr dk 151 (#[dev b] ++ hd.cells) := H0.out.mid.dkb.only hon (HND.out _ _ _ H0.out.mid.dkb (by decide))
     have e0 : wr.cell? ⟨dk, 0, none⟩ = some (.iface 23 (.pointer (some ⟨b, 0, none⟩))) := zab hdkw 0 rfl
     have hatw : DkAt wr b (.slice (some ⟨g, 0, none⟩) n (zdb bytes)) cv m := Blk.only H0.out.mid.disk.at_ hon (HND.out _ _ _ H0.out.mid.disk.at_ (by decide))
     have BL := zaa (zd8 b n (zdb bytes) (some ⟨g, 0, none⟩) cv m wr hatw)
     have huw : UsedJ H (H + 1 + 1 + 1 + 1) (H + 1 + 1 + 1) L wr := H0.out.used.only hon (HND.out _ _ _ H0.out.used.var_ (by decide)) (fun e => by have := HLOW.out _ e; omega)
     have e8 : wr.cell? ⟨H + 1 + 1 + 1 + 1, 0, none⟩ = some (.map (some (H + 1 + 1 + 1))) := zab huw.var_ 0 rfl
     have h7w := H7.out.only hon (HND.out _ _ _ H7.out (by decide))
     have e7 : wr.cell? ⟨H + 1 + 1, 1, none⟩ = some (.int .u32 gn) := zab h7w 1 rfl
     have f0 : wr.cell? ⟨y, 0, none⟩ = some (.int .i64 (s k).blk) := zab hnk 0 rfl
     have f1 : wr.cell? ⟨y, 1, none⟩ = some (.int .u32 (s k).gen) := zab hnk 1 rfl
     have f2 : wr.frozen? ⟨y, 0, none⟩ = false := Blk.frozen hnk 0
     have f3 : wr.frozen? ⟨y, 1, none⟩ = false := Blk.frozen hnk 1
     have k0 : (0 : Int) <= (k : Int) := by omega
     have k1 : (k : Int) < (ds.length : Int) := by omega
     have LK := zaa (fun a' => zhl huw.used a')
     have HUW := zaa huw
     have HFR := zaa hfr
     have HH := zaa hh
     have HON := zaa hon
     have HNK := zaa hnk
     have HY := zaa hy
     have HKX := zaa hkx
     clear hfr hh hon hnk hy hdkw hatw huw h7w hkx
     go_wp2_with fail
     go_loop [12] (fun s => ∃ a' : Nat, s = .int .i64 a' /\ a' <= n /\ fr L n a' = xs.drop k) (fun s => n - (intOf s).toNat)
     case atStart => exact ⟨a, rfl, han, HFR.out⟩
     case round =>
      obtain ⟨a', rfl, han', hfr'⟩ := hrel
      have hlt' : a' < n := by
       rcases Nat.lt_or_ge a' n with h | h
       . exact h
       . rw [zp4 h] at hfr'
         have := congrArg List.length hfr'
         rw [List.length_drop, List.length_nil] at this
         have := HKX.out
         omega
      have a0 : (a' : Int) < (n : Int) := by omega
      have a1 : ¬ (n : Int) <= (a' : Int) := by omega
      have lk := LK.out a'
      by_cases hm : a' ∈ L
      . rw [if_pos hm] at lk
        have HFR' := zaa hfr'
        have HM := zaa hm
        clear hfr' hm
        go_wp2_with (go_at_call 237; refine BL.out.mono ?_; rintro e w' ⟨rfl, rfl⟩)
        go_round
        case rel => exact ⟨a' + 1, by go_num, by omega, by rw [<- zzj HM.out]; exact HFR'.out⟩
        case measure => simp [intOf]; omega
      . rw [if_neg hm] at lk
        have hcons := (zzk hlt' hm).symm.trans hfr'
        rw [List.drop_eq_getElem_cons HKX.out] at hcons
        injection hcons with hc1' hc2'
        have HC1 := zaa hc1'
        have HC2 := zaa hc2'
        clear hfr' hm hc1' hc2'
        go_wp2_with (go_at_call 237; refine BL.out.mono ?_; rintro e w' ⟨rfl, rfl⟩)
        go_roundw
        case rel =>
         have hO : Only (· = ds[k]) wr ((wr.setCell ⟨y, 0, none⟩ (.int .i64 a')).setCell ⟨y, 1, none⟩ (.int .u32 gn)) := by rw [<- HY.out]; exact (Only.set1 _ _ _ _).set2 _ _
         refine ⟨k + 1, a' + 1, by omega, by go_num, by go_num, by omega, HC2.out, HH.out.step H0.out.mid.nd hlt hO ?_, HON.out.trans (hO.mono fun x _ hx => by rw [hx]; exact List.getElem_mem _)⟩
         rw [<- HY.out]
         have : xs.getD k 0 = a' := by rw [List.getD_eq_getElem?_getD, List.getElem?_eq_getElem HKX.out, HC1.out]; rfl
         unfold zb3 NdS.at_
         simp only [this]
         exact (Blk.set_ HNK.out 0 (.int .i64 a')).set_ 1 (.int .u32 gn)
        case measure => simp [intOf]; omega
   . have k1 : ¬ (k : Int) < (ds.length : Int) := by omega
     obtain rfl : k = ds.length := by omega
     have HH := zaa hh
     have HON := zaa hon
     clear hh hon hfr
     go_wp2
     go_meet
     exact ⟨⟨a, rfl⟩, HH.out, HON.out⟩
 case rest =>
  obtain ⟨⟨a, rfl⟩, hh, hon⟩ := hcut
  rename_i hK
  have hm := H0.out.mid
  have hall : ∀ {y T cs}, Blk W y T cs -> T ≠ 137 -> Blk wc y T cs := fun hy hT => hy.only hon (HND.out _ _ _ hy hT)
  have hlaid : Laid (fun z => z < H) ds (fun y => xs.getD (ds.idxOf y) 0) gn true W wc := zx0 hm.nodes H0.out.dirty_ hm.nd hh.all hon
  have htree := H0.out.tree.lay hlaid (fun y hy => hy)
  rw [zs5 hm.nd HRM.out, if_pos rfl, <- HT1.out] at htree
  have hxn : ∀ x ∈ xs.take ds.length, x < n := fun x hx => by
   have := List.mem_of_mem_take hx
   rw [HXS.out] at this
   exact (zh2 this).2.1
  have hout := zzu (t := T) (g := gn) (n0 := n) (xs := xs.take ds.length) hgn (by omega) (by omega) H0.out.q0_ H0.out.small hxn
  have hrt := zxz hout.1
  rw [<- HT1.out] at hout hrt
  obtain ⟨v, hv, hown⟩ := hm.dirt
  have hmid : ComMid wc H K b g base n cv m bytes cache dk hd ds (fun j => (s j).at_ (xs.getD j 0) gn) :=
   ⟨hm.disk.only hon (fun x hx e => by
    obtain ⟨j, hj, rfl⟩ := List.getElem_of_mem e
    exact hm.disk.ne (hm.nodes j hj) (by decide) (by decide) (by decide) hx), hm.glob.imp id fun ⟨hg, h0⟩ => ⟨hg.only hon fun e => by obtain ⟨j, hj, e⟩ := List.getElem_of_mem e; exact hg.node (hm.nodes j hj) e, h0⟩, hall hm.dkb (by decide), hall hm.e6 (by decide), ⟨v, hall hv (by decide), za0 hown hon fun x cs hx => HND.out _ _ _ hx (by decide)⟩, hh.all, hm.nd, hm.low, hm.dkl, hm.few, hm.size, hm.num, Nat.lt_of_lt_of_le hm.H_ hon.size⟩
  exact hK _ _ (zzt F H K b g base n cv m bytes cache dk hd ds (fun j => (s j).at_ (xs.getD j 0) gn) T1 sl gn q0 keys W₀ wc hF (HW.out.trans (hon.mono fun x _ hx => .inr (.inr (.inl hx)))) ⟨hmid, htree, hout.2, H0.out.num, H0.out.cach⟩ (hall H4.out (by decide)) (hall H7.out (by decide)) hsl hgn hrt.1 hrt.2 _ _ _ _ _ _ _ _ _ _ _ _ _ _ _ _ _ _ _ _ _ _ _ _ _ _ _ _ _ _ _ _ _ _ _ _ _ _ _ _ _ _ _ _ _ _ _ _ _ _ _ _ _ _ _ _ _ _ _ _ _ _ _ _ _ _ _ _ _ _ _ _ _ _ _ _ _ _ _ _ _ _ _ _ _ _ _ _ _ _ _ _ _ _ _ _ _ _ _ _ _ _ _ _ _ _ _ _ _ _ _ _ _ _ _ _ _ _ _ _ _ _ _ _ _ _ _ _ _ _ _ _ _ _)
def LA (R : List (Tree × Value × List Nat)) (k : Nat) : List Nat := ((R.take k).flatMap fun r => r.1.blks).foldl ins []
theorem zzw {R : List (Tree × Value × List Nat)} {k : Nat} (h : k < R.length) : LA R (k + 1) = (R[k].1.blks).foldl ins (LA R k) := by
 unfold LA
 rw [zc3 h, List.flatMap_append, List.foldl_append]
 simp
set_option maxHeartbeats 6400000 in
theorem zzx (K b g base n : Nat) (cv : Value) (m : Nums) (bytes : List UInt8) (cache : List (Nat × List UInt8)) (dk : Nat) (hd : Hd) (T : Tree) (q0 : Option Addr) (ds : List Nat) (A : Option Addr) (c : Nat) (R : List (Tree × Value × List Nat)) (w : World) (h : zie w K b g base n cv m bytes cache dk hd T (.pointer q0) ds A c R)
   (sl gn : Nat) (W : World) (hu : UsedJ w.heap.size (w.heap.size + 1 + 1 + 1 + 1) (w.heap.size + 1 + 1 + 1) (LA R R.length) W) (hx : ComX w.heap.size (.pointer q0) T.keys #[.int .i64 sl, .int .u32 gn, .int .i64 0, .int .u32 0] W) (hq : Blk W (w.heap.size + 1 + 1 + 1 + 1 + 1) 156 #[.slice none 0 0]) (hb : Below w.heap.size w W) (s : Nat -> NdS) (hs : ∀ j (hj : j < ds.length), zb3 w ds[j] (s j)) (hsd : ∀ j, j < ds.length -> (s j).dirty = true) (hsl : sl < 2) (hgn : gn < 4294967296) (T1 : Tree) (hT1 : T1 = T.lay gn true ((fr (zb2 R T) n 2).take ds.length))
   (u1 u2 u3 u5 u10 u11 u12 u13 u14 u15 u16 u17 u18 u19 u20 u21 u22 u23 u24 u25 u26 u27 u28 u29 u30 u31 u32 u33 u34 u35 u36 u37 u38 u39 u40 u41 u42 u43 u44 u45 u46 u47 u48 u49 u50 u51 u52 u53 u54 u55 u56 u57 u58 u59 u60 u61 u62 u63 u64 u65 u66 u67 u68 u69 u70 u71 u72 u73 u74 u75 u76 u77 u78 u79 u80 u81 u82 u83 u84 u85 u86 u87 u88 u89 u90 u91 u92 u93 u94 u95 u96 u97 u98 u99 u100 u101 u102 u103 u104 u105 u106 u107 u108 u109 u110 u111 u112 u113 u114 u115 u116 u117 u118 u119 u120 u121 u122 u123 u124 u125 u126 u127 u128 u129 u130 u131 u132 u133 u134 u135 u136 u137 u138 u139 : Value) :
   Code.wp Tryz.prog (zld 5) (bodyPostD Tryz.prog Tryz.f60 (ComEnd (dfp b g cv) w.heap.size K ds.length b g base n m bytes cache (zao T1) dk hd ds (fun j => (s j).at_ ((fr (zb2 R T) n 2).getD j 0) gn) sl gn T1.rblk T1.rgen w)) ⟨#[.pointer (some ⟨dk, 0, none⟩), u1, u2, u3, .pointer (some ⟨w.heap.size, 0, none⟩), u5, .pointer (some ⟨w.heap.size + 1, 0, none⟩), .pointer (some ⟨w.heap.size + 1 + 1, 0, none⟩), .pointer (some ⟨w.heap.size + 1 + 1 + 1 + 1, 0, none⟩), .pointer (some ⟨w.heap.size + 1 + 1 + 1 + 1 + 1, 0, none⟩), u10, u11, u12, u13, u14, u15, u16, u17, u18, u19, u20, u21, u22, u23, u24, u25, u26, u27, u28, u29, u30, u31, u32, u33, u34, u35, u36, u37, u38, u39, u40, u41, u42, u43, u44, u45, u46, u47, u48, u49, u50, u51, u52, u53, u54, u55, u56, u57, u58, u59, u60, u61, u62, u63, u64, u65, u66, u67, u68, u69, u70, u71, u72, u73, u74, u75, u76, u77, u78, u79, u80, u81, u82, u83, u84, u85, u86, u87, u88, u89, u90, u91, u92, u93, u94, u95, u96, u97, u98, u99, u100, u101, u102, u103, u104, u105, u106, u107, u108, u109, u110, u111, u112, u113, u114, u115, u116, u117, u118, u119, u120, u121, u122, u123, u124, u125, u126, u127, u128, u129, u130, u131, u132, u133, u134, u135, u136, u137, u138, u139], []⟩ W := by
 have hmf : ∀ (fn : Fn) (first cap : Array Value) (w : World), (Instr.makeFunc fn first cap).run Tryz.prog w = .ok (.func fn first cap) w := fun _ _ _ _ => rfl
 have hds : ds.length <= 1000 := by
  have h1 := h.room
  have h2 : (fr (zb2 R T) n 2).length <= n := by
   unfold fr
   refine Nat.le_trans (List.length_filter_le _ _) ?_
   rw [List.length_range']; omega
  have := h.size.2
  omega
 have hvb := h.tree.below hb (ok' := fun z => z < w.heap.size) (fun _ h => h)
 have x0 : W.cell? ⟨w.heap.size, 0, none⟩ = some (.pointer q0) := zab hx.t4 0 rfl
 have x1 : W.cell? ⟨w.heap.size, 1, none⟩ = some (.int .i64 T.keys) := zab hx.t4 1 rfl
 have WK := zaa (z1g (M := 1000) (J := fun L D W => BothJ w.heap.size (w.heap.size + 1 + 1 + 1 + 1 + 1) (w.heap.size + 1 + 1 + 1 + 1) (w.heap.size + 1 + 1 + 1) L D W /\ ComX w.heap.size (.pointer q0) T.keys #[.int .i64 sl, .int .u32 gn, .int .i64 0, .int .u32 0] W)
  (fun L D W W' h hb => ⟨h.1.below hb, h.2.keep fun y T cs hy _ _ => hy.below hb hy.lt⟩)
  (fun L D b blk gen dirty pv kv W hJ hn hb hn0 hM => by
   cases dirty with
   | false => exact zon (X := fun W => ComX w.heap.size (.pointer q0) T.keys #[.int .i64 sl, .int .u32 gn, .int .i64 0, .int .u32 0] W) (fun W W' hx hk => hx.keep hk) _ _ _ _ L D b blk gen pv kv W hJ hn hb hn0
   | true => exact zoo (X := fun W => ComX w.heap.size (.pointer q0) T.keys #[.int .i64 sl, .int .u32 gn, .int .i64 0, .int .u32 0] W) (fun W W' hx hk => hx.keep hk) _ _ _ _ L D b blk gen pv kv W hJ hn hb hn0 (by simp only [List.length_append] at hM; omega))
  T (.pointer q0) T.keys ds (LA R R.length) [] W hvb ⟨⟨hu, ⟨_, hq, ⟨rfl, .inl ⟨rfl, rfl⟩⟩⟩, by omega⟩, hx⟩ hb.size (by simpa [vdB] using hds))
 have HB := zaa hb
 have H0 := zaa h
 have hus : T.cblks.foldl ins (LA R R.length) = zb2 R T := by unfold LA zb2; rw [List.take_length]
 rw [hus] at WK
 have HDS := zaa hds
 have HS := zaa hs
 have HSD := zaa hsd
 have HT1 := zaa hT1
 clear hu hx hq hb hvb h hus hds hs hsd hT1
 conv => arg 2; whnf
 go_upto_region 11 with (go_at_call 87; go_loud (refine WK.out.mono ?_; rintro e w3 ⟨rfl, hj3, hb3⟩))
 go_cut [12] from 12 to 12 (fun s12 wx => s12 = .int .i64 2 /\ wx = w3)
 case first =>
  go_wp2
  go_meet
  exact ⟨rfl, rfl⟩
 case rest =>
  obtain ⟨rfl, rfl⟩ := hcut
  rename_i hK
  have hbw := HB.out.trans hb3
  obtain ⟨⟨hu3, ⟨v, hv, hown⟩, hl3⟩, hx3⟩ := hj3
  have e0 : [] ++ vdB ds = ds := rfl
  rw [e0] at hown
  have hin := H0.out
  have hlow : ∀ y ∈ ds, y < w.heap.size := fun y hy => (hin.tree.ds y hy).1
  have hmid : ComMid wc w.heap.size K b g base n cv m bytes cache dk hd ds s :=
   ⟨hin.disk.below hbw, hin.glob.imp id fun ⟨hg, h0⟩ => ⟨hg.below hbw, h0⟩, hin.dkb.below hbw hin.dkb.lt, hx3.e6, ⟨v, hv, hown⟩, fun j hj => Blk.below (HS.out j hj) hbw (Blk.lt (HS.out j hj)), hin.nd, hlow, hin.dkb.lt, HDS.out, by have := hin.size.1; omega, by have := hin.num; omega, by have := hv.lt; omega⟩
  exact hK _ _ (zzv (dfp b g cv) w.heap.size K b g base n cv m bytes cache dk hd ds s T (zb2 R T) sl gn q0 T.keys w wc (fun x h => .inl h) (Only.of_below hbw) ⟨hmid, hu3, hin.tree.below hbw (fun _ h => h), HSD.out, fun h n hr => (hin.fit h n hr).mono fun _ _ h => h, hin.small, hin.size.2, hin.room, by have := hin.num; omega, by have := hin.cache_; have := HDS.out; omega⟩ hx3.t4 hx3.h7 hsl hgn T1 HT1.out _ _ _ _ _ _ _ _ _ _ _ _ _ _ _ _ _ _ _ _ _ _ _ _ _ _ _ _ _ _ _ _ _ _ _ _ _ _ _ _ _ _ _ _ _ _ _ _ _ _ _ _ _ _ _ _ _ _ _ _ _ _ _ _ _ _ _ _ _ _ _ _ _ _ _ _ _ _ _ _ _ _ _ _ _ _ _ _ _ _ _ _ _ _ _ _ _ _ _ _ _ _ _ _ _ _ _ _ _ _ _ _ _ _ _ _ _ _ _ _ _ _ _ _ _ _ _ _ _ _ _ _ _)
def z2n (w : World) (H qd qu u : Nat) (rp : Value) (keys : Int) (h' : Array Value) (R : List (Tree × Value × List Nat)) (s : Value) (wr : World) : Prop :=
 ∃ k : Nat, k <= R.length /\ s = .int .i64 k /\ (UsedJ H qu u (LA R k) wr /\ (ComX H rp keys h' wr /\ Blk wr qd 156 #[.slice none 0 0])) /\ Below H w wr
set_option maxHeartbeats 6400000 in
theorem zzy (K b g base n : Nat) (cv : Value) (m : Nums) (bytes : List UInt8) (cache : List (Nat × List UInt8)) (dk : Nat) (hd : Hd) (T : Tree) (q0 : Option Addr) (ds : List Nat) (A : Option Addr) (c : Nat) (R : List (Tree × Value × List Nat)) (w : World) (h : zie w K b g base n cv m bytes cache dk hd T (.pointer q0) ds A c R)
   (sl gn : Nat) (W0 : World) (hu0 : UsedJ w.heap.size (w.heap.size + 1 + 1 + 1 + 1) (w.heap.size + 1 + 1 + 1) [] W0) (hx0 : ComX w.heap.size (.pointer q0) T.keys #[.int .i64 sl, .int .u32 gn, .int .i64 0, .int .u32 0] W0) (hd0 : Blk W0 (w.heap.size + 1 + 1 + 1 + 1 + 1) 156 #[.slice none 0 0]) (hb0 : Below w.heap.size w W0)
   (s : Nat -> NdS) (hs : ∀ j (hj : j < ds.length), zb3 w ds[j] (s j)) (hsd : ∀ j, j < ds.length -> (s j).dirty = true) (hsl2 : sl < 2) (hgn2 : gn < 4294967296) (T1 : Tree) (hT1 : T1 = T.lay gn true ((fr (zb2 R T) n 2).take ds.length))
   (u1 u3 u5 u10 u11 u12 u13 u14 u15 u16 u17 u18 u19 u20 u21 u22 u23 u24 u25 u26 u27 u28 u29 u30 u31 u32 u33 u34 u35 u36 u37 u38 u39 u40 u41 u42 u43 u44 u45 u46 u47 u48 u49 u50 u51 u52 u53 u54 u55 u56 u57 u58 u59 u60 u61 u62 u63 u64 u65 u66 u67 u68 u69 u70 u71 u72 u73 u74 u75 u76 u77 u78 u79 u80 u81 u82 u83 u84 u85 u86 u87 u88 u89 u90 u91 u92 u93 u94 u95 u96 u97 u98 u99 u100 u101 u102 u103 u104 u105 u106 u107 u108 u109 u110 u111 u112 u113 u114 u115 u116 u117 u118 u119 u120 u121 u122 u123 u124 u125 u126 u127 u128 u129 u130 u131 u132 u133 u134 u135 u136 u137 u138 u139 : Value) :
   Code.wp Tryz.prog (zld 4) (bodyPostD Tryz.prog Tryz.f60 (ComEnd (dfp b g cv) w.heap.size K ds.length b g base n m bytes cache (zao T1) dk hd ds (fun j => (s j).at_ ((fr (zb2 R T) n 2).getD j 0) gn) sl gn T1.rblk T1.rgen w)) ⟨#[.pointer (some ⟨dk, 0, none⟩), u1, .slice A R.length c, u3, .pointer (some ⟨w.heap.size, 0, none⟩), u5, .pointer (some ⟨w.heap.size + 1, 0, none⟩), .pointer (some ⟨w.heap.size + 1 + 1, 0, none⟩), .pointer (some ⟨w.heap.size + 1 + 1 + 1 + 1, 0, none⟩), .pointer (some ⟨w.heap.size + 1 + 1 + 1 + 1 + 1, 0, none⟩), u10, u11, u12, u13, u14, u15, u16, u17, u18, u19, u20, u21, u22, u23, u24, u25, u26, u27, u28, u29, u30, u31, u32, u33, u34, u35, u36, u37, u38, u39, u40, u41, u42, u43, u44, u45, u46, u47, u48, u49, u50, u51, u52, u53, u54, u55, u56, u57, u58, u59, u60, u61, u62, u63, u64, u65, u66, u67, u68, u69, u70, u71, u72, u73, u74, u75, u76, u77, u78, u79, u80, u81, u82, u83, u84, u85, u86, u87, u88, u89, u90, u91, u92, u93, u94, u95, u96, u97, u98, u99, u100, u101, u102, u103, u104, u105, u106, u107, u108, u109, u110, u111, u112, u113, u114, u115, u116, u117, u118, u119, u120, u121, u122, u123, u124, u125, u126, u127, u128, u129, u130, u131, u132, u133, u134, u135, u136, u137, u138, u139], []⟩ W0 := by
 have hmf : ∀ (fn : Fn) (first cap : Array Value) (w : World), (Instr.makeFunc fn first cap).run Tryz.prog w = .ok (.func fn first cap) w := fun _ _ _ _ => rfl
 have hR10 : R.length <= 10 := h.few.1
 have hRc : R.length <= c := h.few.2.1
 have hc1000 : c <= 9223372036854775807 := by have := h.few.2.2; unfold maxLen at this; omega
 have HB0 := zaa hb0
 have HX0 := zaa hx0
 have HU0 := zaa hu0
 have HD0 := zaa hd0
 have HS := zaa hs
 have HSD := zaa hsd
 have HT1 := zaa hT1
 have H0 := zaa h
 clear h hu0 hx0 hd0 hb0 hs hsd hT1
 conv => arg 2; whnf
 go_upto_block 0 with fail
 go_cut [11] from 33 to 40 (fun s11 wx => (UsedJ w.heap.size (w.heap.size + 1 + 1 + 1 + 1) (w.heap.size + 1 + 1 + 1) (LA R R.length) wx /\ (ComX w.heap.size (.pointer q0) T.keys #[.int .i64 sl, .int .u32 gn, .int .i64 0, .int .u32 0] wx /\ Blk wx (w.heap.size + 1 + 1 + 1 + 1 + 1) 156 #[.slice none 0 0])) /\ Below w.heap.size w wx)
 case first =>
  go_wp2_with fail
  go_loopw [33] (fun s wr => z2n w w.heap.size (w.heap.size + 1 + 1 + 1 + 1 + 1) (w.heap.size + 1 + 1 + 1 + 1) (w.heap.size + 1 + 1 + 1) (.pointer q0) T.keys #[.int .i64 sl, .int .u32 gn, .int .i64 0, .int .u32 0] R s wr) (fun s _ => R.length - (intOf s).toNat)
  case atStart => exact ⟨0, Nat.zero_le _, rfl, ⟨HU0.out, HX0.out, HD0.out⟩, HB0.out⟩
  case round =>
   obtain ⟨k, hk, rfl, hj, hb⟩ := hrel
   by_cases hlt : k < R.length
   . obtain ⟨gr, o, hA, hgr, r1, r2, htv⟩ := H0.out.rds k hlt
     obtain ⟨qk, hqk⟩ := htv.ptr
     rw [hqk] at r1 htv
     subst hA
     have e1 : wr.cell? ⟨gr, o + k * 2, none⟩ = some (.pointer qk) := (hb.cell (p := ⟨gr, o + k * 2, none⟩) hgr).trans r1
     have e2 : wr.cell? ⟨gr, o + k * 2 + 1, none⟩ = some (.int .i64 R[k].1.keys) := (hb.cell (p := ⟨gr, o + k * 2 + 1, none⟩) hgr).trans r2
     have hal : Below wr.heap.size wr (wr.alloc (.cells #[.pointer qk, .int .i64 R[k].1.keys] 88)) := (Below.refl _ _).alloc (Nat.le_refl _) _
     have hv1 : TreeV (fun z => z < w.heap.size) (wr.alloc (.cells #[.pointer qk, .int .i64 R[k].1.keys] 88)) R[k].1 (.pointer qk) R[k].2.2 := (htv.below hb (fun _ h => h)).below hal (fun _ h => h)
     have hj1 : UsedJ w.heap.size (w.heap.size + 1 + 1 + 1 + 1) (w.heap.size + 1 + 1 + 1) (LA R k) (wr.alloc (.cells #[.pointer qk, .int .i64 R[k].1.keys] 88)) /\ (ComX w.heap.size (.pointer q0) T.keys #[.int .i64 sl, .int .u32 gn, .int .i64 0, .int .u32 0] (wr.alloc (.cells #[.pointer qk, .int .i64 R[k].1.keys] 88)) /\ Blk (wr.alloc (.cells #[.pointer qk, .int .i64 R[k].1.keys] 88)) (w.heap.size + 1 + 1 + 1 + 1 + 1) 156 #[.slice none 0 0]) :=
      ⟨hj.1.below hal, hj.2.1.keep (fun y T cs hy _ _ => hy.alloc _), hj.2.2.alloc _⟩
     have WK := zaa (z1f (M := 0) (J := fun L _ W => UsedJ w.heap.size (w.heap.size + 1 + 1 + 1 + 1) (w.heap.size + 1 + 1 + 1) L W /\ (ComX w.heap.size (.pointer q0) T.keys #[.int .i64 sl, .int .u32 gn, .int .i64 0, .int .u32 0] W /\ Blk W (w.heap.size + 1 + 1 + 1 + 1 + 1) 156 #[.slice none 0 0]))
      (fun L D W W' h hb => ⟨h.1.below hb, h.2.1.keep (fun y T cs hy _ _ => hy.below hb hy.lt), h.2.2.below hb h.2.2.lt⟩)
      (fun L D b blk gen dirty pv kv W hJ hn hb hn0 _ => zrx (X := fun W => ComX w.heap.size (.pointer q0) T.keys #[.int .i64 sl, .int .u32 gn, .int .i64 0, .int .u32 0] W /\ Blk W (w.heap.size + 1 + 1 + 1 + 1 + 1) 156 #[.slice none 0 0]) (fun W W' hx hk => ⟨hx.1.keep fun y T cs hy _ _ => hk y T cs hy, hk _ _ _ hx.2⟩) _ _ _ L D b blk gen dirty pv kv W hJ hn hb hn0)
      R[k].1 (.pointer qk) R[k].1.keys R[k].2.2 (LA R k) [] _ hv1 hj1 (Nat.le_trans hb.size hal.size) (by simp [vdA]))
     rw [<- zzw hlt] at WK
     have k0 : (0 : Int) <= (k : Int) := by omega
     have k1 : (k : Int) < (R.length : Int) := by omega
     have HB := zaa hb
     have HAL := zaa hal
     clear hj hb hv1 hj1 hal htv r1 r2 hqk
     go_wp2_with (go_at_call 87; go_loud (refine WK.out.mono ?_; rintro e w3 ⟨rfl, hj3, hb3⟩))
     go_roundw
     case rel => exact ⟨k + 1, by omega, by go_num, hj3, HB.out.trans (Below.from_alloc hb3 HB.out HB.out.size)⟩
     case measure => simp [intOf]; omega
   . have k1 : ¬ (k : Int) < (R.length : Int) := by omega
     obtain rfl : k = R.length := by omega
     have HJ := zaa hj
     have HB := zaa hb
     clear hj hb
     go_wp2
     go_meet
     exact ⟨HJ.out, HB.out⟩
 case rest =>
  obtain ⟨⟨hu, hx, hq⟩, hb⟩ := hcut
  rename_i hK
  exact hK _ _ (zzx K b g base n cv m bytes cache dk hd T q0 ds A c R w H0.out sl gn wc hu hx hq hb s HS.out HSD.out hsl2 hgn2 T1 HT1.out _ _ _ _ _ _ _ _ _ _ _ _ _ _ _ _ _ _ _ _ _ _ _ _ _ _ _ _ _ _ _ _ _ _ _ _ _ _ _ _ _ _ _ _ _ _ _ _ _ _ _ _ _ _ _ _ _ _ _ _ _ _ _ _ _ _ _ _ _ _ _ _ _ _ _ _ _ _ _ _ _ _ _ _ _ _ _ _ _ _ _ _ _ _ _ _ _ _ _ _ _ _ _ _ _ _ _ _ _ _ _ _ _ _ _ _ _ _ _ _ _ _ _ _ _ _ _ _ _ _ _ _ _ _)
end Go.Proofs.YtemondlgcmpbbaaGreatDoor
