/- Walks: api.Disk.After, of a disk with writes that were not flushed. -/
import Derived.Test.YtemondlgcmpbbaaGreatDoorMP38
import Derived.Test.YtemondlgcmpbbaaGreatDoorMP39
import Derived.Test.YtemondlgcmpbbaaGreatDoorMP40
import Derived.Test.YtemondlgcmpbbaaGreatDoorMP12
namespace Go.Proofs.YtemondlgcmpbbaaGreatDoor
open Go.RowKit
set_option maxRecDepth 100000
def zg6 (bs : List UInt8) (i s : Nat) (seg : List UInt8) : List UInt8 := bs.take (i * 128 + s * 32) ++ seg ++ bs.drop (i * 128 + s * 32 + 32)
theorem zyi {bs seg : List UInt8} {i s c : Nat} (hl : bs.length = c * 128) (hi : i < c) (hs : s < 4) (h : seg.length = 32) : (zg6 bs i s seg).length = c * 128 := by
 unfold zg6
 rw [List.length_append, List.length_append, List.length_take, List.length_drop, h, hl]
 omega
theorem zlj {bs seg : List UInt8} {i s c j : Nat} (hl : bs.length = c * 128) (hi : i < c) (hs : s < 4) (h : seg.length = 32) : (zg6 bs i s seg)[j]? = if i * 128 + s * 32 <= j /\ j < i * 128 + s * 32 + 32 then seg[j - (i * 128 + s * 32)]? else bs[j]? := by
 unfold zg6
 have h1 : (bs.take (i * 128 + s * 32)).length = i * 128 + s * 32 := by rw [List.length_take, hl]; omega
 by_cases a : j < i * 128 + s * 32
 . rw [if_neg (by omega), List.append_assoc, List.getElem?_append_left (by omega), List.getElem?_take, if_pos a]
 . by_cases b : j < i * 128 + s * 32 + 32
   . rw [if_pos ⟨by omega, b⟩, List.append_assoc, List.getElem?_append_right (by omega), List.getElem?_append_left (by omega), h1]
   . rw [if_neg (by omega), List.getElem?_append_right (by rw [List.length_append]; omega), List.getElem?_drop, List.length_append, h1, h]
     congr 1
     omega
theorem zws {bs bs' : List UInt8} {k : Nat} (h : ∀ j, j < 128 -> bs'[k * 128 + j]? = bs[k * 128 + j]?) : dread bs' [] k = dread bs [] k := by
 unfold dread
 simp only [List.foldl_nil]
 apply List.ext_getElem?
 intro j
 rw [List.getElem?_take, List.getElem?_take, List.getElem?_drop, List.getElem?_drop]
 split
 . exact h j (by omega)
 . rfl
theorem zu3 {bs seg : List UInt8} {i s c k : Nat} (hl : bs.length = c * 128) (hi : i < c) (hs : s < 4) (h : seg.length = 32) (hk : k ≠ i) : dread (zg6 bs i s seg) [] k = dread bs [] k := by
 refine zws fun j hj => ?_
 rw [zlj hl hi hs h, if_neg]
 have : k < i \/ i < k := by omega
 omega
theorem zg7 (bs : List UInt8) (k j : Nat) : ((dread bs [] k).take 32)[j]? = if j < 32 then bs[k * 128 + j]? else none := by
 unfold dread
 simp only [List.foldl_nil]
 rw [List.getElem?_take]
 split
 . rw [List.getElem?_take, if_pos (by omega), List.getElem?_drop]
 . rfl
theorem zu4 {bs seg : List UInt8} {i c : Nat} (hl : bs.length = c * 128) (hi : i < c) (h : seg.length = 32) : (dread (zg6 bs i 0 seg) [] i).take 32 = seg := by
 apply List.ext_getElem?
 intro j
 rw [zg7, zlj hl hi (by omega) h]
 split
 . rw [if_pos (by omega)]
   congr 1
   omega
 . rw [List.getElem?_eq_none (by omega)]
theorem zwt {bs seg : List UInt8} {i s c : Nat} (hl : bs.length = c * 128) (hi : i < c) (hs : s < 4) (h : seg.length = 32) (h0 : 0 < s) : (dread (zg6 bs i s seg) [] i).take 32 = (dread bs [] i).take 32 := by
 apply List.ext_getElem?
 intro j
 rw [zg7, zg7, zlj hl hi hs h]
 split
 . rw [if_neg (by omega)]
 . rfl
theorem z0d {bs seg : List UInt8} {i s c : Nat} (_hl : bs.length = c * 128) (_hi : i < c) (_hs : s < 4) (h : seg.length = 32) : spl (bc bs) (i * 128 + s * 32) (bc seg) = bc (zg6 bs i s seg) := by
 unfold spl zg6
 rw [zal, h, zey, zey, zfd, zeo]
theorem Torn.none_ {n : Nat} {bytes : List UInt8} {rd : Nat -> List UInt8} (h : ∀ i, i < n -> rd i = dread bytes [] i) : Torn n bytes [] rd := ⟨fun i hi _ => h i hi, fun i hi => .inl (by rw [h i hi])⟩
theorem Torn.more {n j : Nat} {bytes : List UInt8} {cache : List (Nat × List UInt8)} {rd : Nat -> List UInt8} (h : Torn n bytes (cache.take j) rd) : Torn n bytes cache rd :=
 ⟨fun i hi hx => h.other i hi fun x hm => hx x (List.mem_of_mem_take hm), fun i hi => (h.head i hi).imp id fun ⟨x, hm, e⟩ => ⟨x, List.mem_of_mem_take hm, e⟩⟩
theorem Torn.step {n j : Nat} {bytes : List UInt8} {cache : List (Nat × List UInt8)} {rd rd' : Nat -> List UInt8} (h : Torn n bytes (cache.take j) rd) (hj : j < cache.length) (ho : ∀ i, i < n -> i ≠ cache[j].1 -> rd' i = rd i) (hh : (rd' cache[j].1).take 32 = (rd cache[j].1).take 32 \/ (rd' cache[j].1).take 32 = cache[j].2.take 32) : Torn n bytes (cache.take (j + 1)) rd' := by
 have htk : cache.take (j + 1) = cache.take j ++ [cache[j]] := List.take_succ_eq_append_getElem hj
 refine ⟨fun i hi hx => ?_, fun i hi => ?_⟩
 . rw [ho i hi (fun e => hx cache[j] (by rw [htk]; exact List.mem_append_right _ (List.mem_singleton.2 rfl)) e.symm)]
   exact h.other i hi fun x hm => hx x (by rw [htk]; exact List.mem_append_left _ hm)
 . have old : (rd i).take 32 = (dread bytes [] i).take 32 \/ ∃ x ∈ cache.take (j + 1), x.1 = i /\ (rd i).take 32 = x.2.take 32 := (h.head i hi).imp id fun ⟨x, hm, e⟩ => ⟨x, by rw [htk]; exact List.mem_append_left _ hm, e⟩
   by_cases e : i = cache[j].1
   . subst e
     rcases hh with hh | hh
     . rw [hh]; exact old
     . exact .inr ⟨cache[j], by rw [htk]; exact List.mem_append_right _ (List.mem_singleton.2 rfl), rfl, hh⟩
   . rw [ho i hi e]; exact old
theorem zoe (g o : Nat) : ∀ (s : Nat), s < 4 -> ∀ w : World, (Instr.sliceAt 111 (.pointer (some ⟨g, o, none⟩)) (some (.int .i64 ((s : Int) * 32))) (some (.int .i64 ((s : Int) * 32 + 32))) none).run Tryz.prog w = .ok (.slice (some ⟨g, o + s * 32, none⟩) 32 (128 - s * 32)) w
 | 0, _, _ => by kernel_rfl
 | 1, _, _ => by kernel_rfl
 | 2, _, _ => by kernel_rfl
 | 3, _, _ => by kernel_rfl
 | _ + 4, h, _ => by omega
set_option maxHeartbeats 4000000 in
theorem zu5 {K b g base base' n kn kc : Nat} {A : Option Addr} {cv : Value} {m : Nums} {bytes : List UInt8} {cache : List (Nat × List UInt8)} {zs : List Int} {w : World} (h : Dk w K b g base n cv m bytes cache) (hn : 0 < n) (hz : IntsAt w A kn kc zs) (hb' : base' <= w.heap.size) :
   Calls Tryz.prog 34 #[.pointer (some ⟨b, 0, none⟩), .slice A kn kc] w fun e w' => ∃ b' g' bytes', e = .returned (.pointer (some ⟨b', 0, none⟩)) /\ Dk w' 0 b' g' base' n (.slice none 0 0) Nums.new bytes' [] /\ Torn n bytes cache (dread bytes' []) /\ w.heap.size <= b' /\ w.heap.size <= g' /\ Below w.heap.size w w' := by
 obtain ⟨Ac, cc, rfl, hqc, hcc, hown, hno⟩ := zan h.own
 have hle : n * 128 <= bytes.length := by rw [h.len]; exact Nat.mul_le_mul_right _ h.cap
 have h1000 := h.fits
 have hmany := h.many
 have c0 := zab h.at_ 0 rfl
 obtain ⟨i0, hi0, hz0, hz1, hz2⟩ := info_parts zoy
 obtain ⟨c, hc⟩ : ∃ c, c = grownCap w n 0 111 := ⟨_, rfl⟩
 have hge : n <= c := by rw [hc]; exact grownCap_ge w n 0 111
 have hwl := zr5 hle hge
 obtain ⟨WE, hWE⟩ : ∃ WE, WE = (((w.drew.alloc (.cells ((bc (bytes.take (n * 128))).toArray ++ Builtin.zeroCells (Value.agg (bc (List.replicate 128 0)).toArray).cells (grownCap w n 0 111 - n)) 111))).alloc (.cells #[.slice (some ⟨w.heap.size, 0, none⟩) n c, .slice none 0 0, .int .i64 0, .int .i64 0, .int .i64 0, .int .i64 (-1), .int .i64 0, .int .i64 0] 103)) := ⟨_, rfl⟩
 have hcells : (bc (bytes.take (n * 128))).toArray ++ Builtin.zeroCells (Value.agg (bc (List.replicate 128 0)).toArray).cells (grownCap w n 0 111 - n) = (bc (zev bytes n c)).toArray := by
  rw [z3c, <- hc]
  unfold zev
  rw [zey]
  simp
 have hbel : Below w.heap.size w WE := by rw [hWE]; exact ((Below.drew (Below.refl _ _)).alloc (by simp) _).alloc (by simp) _
 have hrow : Blk WE w.heap.size 111 (bc (zev bytes n c)).toArray := by rw [hWE, hcells]; exact (Blk.new w.drew _ _).alloc _
 have hde : Blk WE (w.heap.size + 1) 103 #[.slice (some ⟨w.heap.size, 0, none⟩) n c, .slice none 0 0, .int .i64 0, .int .i64 0, .int .i64 0, .int .i64 (-1), .int .i64 0, .int .i64 0] := by rw [hWE]; exact Blk.new2 w.drew _ _ _
 have hfin : ∀ (w' : World) (bs : List UInt8), Blk w' w.heap.size 111 (bc bs).toArray -> bs.length = c * 128 -> Torn n bytes cache (dread bs []) -> Only (· = w.heap.size) WE w' ->
    ∃ b' g' bytes', Ending.returned (.pointer (some ⟨w.heap.size + 1, 0, none⟩)) = .returned (.pointer (some ⟨b', 0, none⟩)) /\ Dk w' 0 b' g' base' n (.slice none 0 0) Nums.new bytes' [] /\ Torn n bytes cache (dread bytes' []) /\ w.heap.size <= b' /\ w.heap.size <= g' /\ Below w.heap.size w w' := by
  intro w' bs hbk hbl ht ho
  have hcb := zmw hbl
  refine ⟨w.heap.size + 1, w.heap.size, bs, rfl, ⟨?_, hbk, by rw [hcb]; exact hbl, by rw [hcb]; exact hge, ⟨rfl, .inl ⟨rfl, rfl⟩⟩, (fun x hx => by cases hx), Nat.zero_le _, Nums.new_sm 0, h.fits, by have := hbel.size; have := ho.size; omega⟩, ht, by omega, Nat.le_refl _, hbel.trans (ho.to_below hbel.size fun x e => by omega)⟩
  rw [hcb]
  exact hde.only ho (by omega)
 have HF := zaa hfin
 have hsrc : ∀ j v, (bc (bytes.take (n * 128)))[j]? = some v -> w.cell? ((⟨g, 0, none⟩ : Addr).add j) = some v := fun j v hv => by
  rw [Addr.add_lit, Nat.zero_add]
  refine zab h.blk j ?_
  rw [zfd, List.getElem?_take] at hv
  split at hv
  . simpa using hv
  . cases hv
 have HS := zaa hsrc
 have hcW : (w.drew.alloc (.cells ((bc (bytes.take (n * 128))).toArray ++ Builtin.zeroCells (Value.agg (bc (List.replicate 128 0)).toArray).cells (grownCap w n 0 111 - n)) 111)).cell? ⟨b, 1, none⟩ = some (.slice Ac cache.length cc) := zab (Blk.alloc (w := w.drew) h.at_ _) 1 rfl
 have HCW := zaa hcW
 have HI0 := zaa hi0
 have HZ0 := zaa hz0
 have HZ1 := zaa hz1
 have HZ2 := zaa hz2
 have HL := zaa (show (bytes.take (n * 128)).length = n * 128 by rw [List.length_take, Nat.min_eq_left hle])
 have H := zaa h
 have HZS := zaa hz
 have HOWN := zaa hown
 have HNO := zaa hno
 have HBEL := zaa hbel
 have HROW := zaa hrow
 have HDE := zaa hde
 have HWL := zaa hwl
 have HCC := zaa hc
 have HWE := zaa hWE
 have HGE := zaa hge
 have HT0 := zaa (show Torn n bytes (cache.take 0) (dread (zev bytes n c) []) by rw [List.take_zero]; exact Torn.none_ fun i hi => zq1 hle hi)
 have hx128 := fun (k : Nat) (hk : k < cache.length) => h.ok _ (List.getElem_mem hk)
 have HOK := zaa hx128
 have HCP := zaa (show (zs.length = kn /\ kn <= kc /\ kc <= maxLen) from ⟨hz.1, hz.2.1, hz.2.2.1⟩)
 clear h hi0 hz0 hz1 hz2 hfin hsrc hge hcW hz hown hno hbel hrow hde hwl hWE hcells hx128 hc
 go_enter Tryz.func34, Tryz.ntmps34
 go_wp2_with (first
  | (at_builtin
     refine zjz _ rfl _ _ 100 rfl 111 i0 _ Tryz.underlying100 HI0.out HZ0.out rfl ⟨g, 0, none⟩ n _ rfl (bc (bytes.take (n * 128))) (by rw [zal, HL.out, HZ1.out]) HS.out hn (by omega) (by rw [HZ2.out]; omega) ?_
     obtain ⟨W, hW⟩ : ∃ W, W = w.drew.alloc (.cells ((bc (bytes.take (n * 128))).toArray ++ Builtin.zeroCells (Value.agg (bc (List.replicate 128 0)).toArray).cells (grownCap w n 0 111 - n)) 111) := ⟨_, rfl⟩
     rw [<- hW, <- HCC.out]
     have c1W : W.cell? ⟨b, 1, none⟩ = some (.slice Ac cache.length cc) := by rw [hW]; exact HCW.out
     have c1A := fun o1 => zai o1 c1W
     have hWs : W.heap.size = w.heap.size + 1 := by rw [hW]; simp
     have HW := zaa hW
     clear hW))
 have hWEW := HWE.out
 rw [<- HW.out] at hWEW
 rw [<- hWEW]
 go_loopw [21] (fun v wr => ∃ (j : Nat) (bs : List UInt8), j <= cache.length /\ v = .int .i64 j /\ Blk wr w.heap.size 111 (bc bs).toArray /\ bs.length = c * 128 /\ Torn n bytes (cache.take j) (dread bs []) /\ Only (· = w.heap.size) WE wr) (fun v _ => cache.length - (intOf v).toNat)
 case atStart => exact ⟨0, _, Nat.zero_le _, rfl, HROW.out, HWL.out, HT0.out, Only.refl _ _⟩
 case round =>
  obtain ⟨j, bs, hj, rfl, hbk, hbl, htn, hon⟩ := hrel
  have HBK := zaa hbk
  have HTN := zaa htn
  have HON := zaa hon
  clear hbk htn hon
  by_cases hlt : j < cache.length
  . obtain ⟨gc, cur, rfl, hgc, htk⟩ : ∃ gc cur, Ac = some ⟨gc, 0, none⟩ /\ Blk w gc 113 cur /\ cur.toList.take (cache.length * 129) = zcd cache := by
      cases Ac with
      | none => have := (HNO.out rfl).1; omega
      | some a =>
        obtain ⟨_, _, e, cur, hb, _, ht⟩ := HOWN.out a.block rfl
        exact ⟨a.block, cur, e, hb, ht⟩
    have hgl := hgc.lt
    have hwr : Blk wr gc 113 cur.toList.toArray := HON.out.blk (hgc.below HBEL.out hgl) (fun e => by omega)
    have hC : ∀ x ∈ cache, x.2.length = 128 := fun x hx => (H.out.ok x hx).2
    obtain ⟨x, hx⟩ : ∃ x, x = cache[j] := ⟨_, rfl⟩
    obtain ⟨hx1, hxl⟩ := HOK.out j hlt
    rw [<- hx] at hx1 hxl
    have hwl : (zaj x).length = 129 := by rw [zcj, hxl]
    have hrg : wr.rangeAt gc (j * 129) (zaj x) := hwr.range (by
     rw [hwl, hx, <- zhc cache j hlt hC, <- htk, zfg _ _ _ _ (by omega)])
    have hsz : (Tryz.prog.info? 113).map (·.size) = some (zaj x).length := by rw [ze1, hwl]
    have k1 : (0 : Int) <= (j : Int) := by omega
    have k2 : (j : Int) < (cache.length : Int) := by omega
    have k3 : (cache.length : Int) <= 100000 := by omega
    have HX := zaa hx
    have HXL := zaa hxl
    have HRGW := zaa hrg
    have HSZ := zaa hsz
    have HWLX := zaa hwl
    clear hrg hsz hwl hwr htk hx hxl hC
    by_cases hjk : j < kn
    . obtain ⟨_, _, _, hI, hks⟩ := HZS.out
      obtain ⟨gk, ok, rfl, hgk, hkc⟩ := hks (by omega)
      have hjz : j < zs.length := by rw [HCP.out.1]; exact hjk
      obtain ⟨z, hzz⟩ : ∃ z, z = zs[j] := ⟨_, rfl⟩
      have hkz : w.cell? ⟨gk, ok + j, none⟩ = some (.int .i64 z) := hkc j z (by rw [List.getElem?_eq_getElem hjz, <- hzz])
      have hzI : I64 z := by rw [hzz]; exact hI _ (List.getElem_mem hjz)
      have j1 : (j : Int) < (kn : Int) := by omega
      have j2 : ¬ (kn : Int) <= (j : Int) := by omega
      have j3 : (kn : Int) <= (kc : Int) := by have := HCP.out.2.1; omega
      have HKZ := zaa hkz
      have HGK := zaa hgk
      clear hkz hzz hks hI hkc hgk
      go_wp2_with (first
       | (refine wpList_load_mid rfl 113 (.tmp 24) rfl gc (j * 129) rfl (zaj x) _ HRGW.out Tryz.underlying113 rfl HSZ.out ?_)
       | (refine zb9 rfl 113 (.tmp 7) (.tmp 25) rfl wr _ _ (zaj x) rfl rfl (by rw [HWLX.out, zd0]; simp [bc]) HSZ.out (zdk _) ?_))
      obtain ⟨wb, hwb⟩ : ∃ wb, wb = wr.heap.size := ⟨_, rfl⟩
      obtain ⟨wo, hwo⟩ : ∃ wo, wo = wr.alloc (.cells (zaj x).toArray 113) := ⟨_, rfl⟩
      rw [<- hwo, <- hwb]
      have hbo : Blk wo w.heap.size 111 (bc bs).toArray := by rw [hwo]; exact HBK.out.alloc _
      have hxo : Blk wo wb 113 (zaj x).toArray := by rw [hwo, hwb]; exact Blk.new _ _ _
      have hono : Only (· = w.heap.size) WE wo := by rw [hwo]; exact HON.out.alloc _
      have hwbw : w.heap.size + 1 < wb := by rw [hwb]; have := HON.out.size; have := HDE.out.lt; omega
      have HXO := zaa hxo
      have HONO := zaa hono
      have HBO := zaa hbo
      clear hwo hxo hono hbo hwb
      go_loopw [8] (fun v wi => ∃ (s : Nat) (bt : List UInt8), s <= 4 /\ v = .int .i64 s /\ Blk wi w.heap.size 111 (bc bt).toArray /\ bt.length = c * 128 /\ (∀ i, i < n -> i ≠ x.1 -> dread bt [] i = dread bs [] i) /\ ((dread bt [] x.1).take 32 = (dread bs [] x.1).take 32 \/ (dread bt [] x.1).take 32 = x.2.take 32) /\ Only (· = w.heap.size) wo wi) (fun v _ => 4 - (intOf v).toNat)
      case atStart => exact ⟨0, bs, Nat.zero_le _, rfl, HBO.out, hbl, fun _ _ _ => rfl, .inl rfl, Only.refl _ _⟩
      case round =>
       obtain ⟨s, bt, hs, rfl, hbt, hbtl, hoth, hhd, honi⟩ := hrel
       have honw := HONO.out.trans honi
       have hde := HDE.out.only honw (by omega)
       have hkz := ((honw.cell (p := ⟨gk, ok + j, none⟩) (Nat.lt_of_lt_of_le HGK.out HBEL.out.size) (show ¬ gk = w.heap.size by have := HGK.out; omega)).trans (HBEL.out.cell (p := ⟨gk, ok + j, none⟩) HGK.out)).trans HKZ.out
       have hxi := HXO.out.only honi (by omega)
       have e0 := zab hde 0 rfl
       have x0 : wr.cell? ⟨wb, 0, none⟩ = some (.int .i64 x.1) := zab hxi 0 rfl
       have HBT := zaa hbt
       have HOTH := zaa hoth
       have HHD := zaa hhd
       have HONI := zaa honi
       have HXI := zaa hxi
       clear hbt hoth hhd honi honw hde hxi
       by_cases hs4 : s < 4
       . have s1 : (s : Int) < 4 := by omega
         have s0 : (0 : Int) <= (s : Int) := by omega
         have hseg : ((x.2.drop (s * 32)).take 32).length = 32 := by rw [List.length_take, List.length_drop, HXL.out]; omega
         have hxc : x.1 < c := Nat.lt_of_lt_of_le hx1 HGE.out
         have HSEG := zaa hseg
         have HXC := zaa hxc
         have HEL := zaa (show w.heap.size + 1 < wr.heap.size from World.block_lt_of_cell? wr ⟨w.heap.size + 1, 0, none⟩ e0)
         have HN1 : Hid ((bc ((x.2.drop (s * 32)).take 32)).length = Nat.min 32 32 * 1) := by rw [zal, hseg]; exact rfl
         have HN2 : Hid (x.1 * 128 + s * 32 + (bc ((x.2.drop (s * 32)).take 32)).length <= (bc bt).length) := by rw [zal, zal, hseg, hbtl]; exact (show _ <= _ by omega)
         have HSPL := zaa (z0d hbtl hxc hs4 hseg)
         have HSR : Hid (∀ j v, (bc ((x.2.drop (s * 32)).take 32))[j]? = some v -> wr.drew.cell? ((⟨wb, 1 + s * 32, none⟩ : Addr).add j) = some v) := fun j v hv => by
          rw [Addr.add_lit]
          refine (Blk.drew HXI.out).range (o := 1 + s * 32) (cs := bc ((x.2.drop (s * 32)).take 32)) ?_ j v hv
          rw [zal, hseg, zfd, zeo, Nat.add_comm 1]
          rfl
         have HSTEP := zaa (show (dread (zg6 bt x.1 s ((x.2.drop (s * 32)).take 32)) [] x.1).take 32 = (dread bs [] x.1).take 32 \/ (dread (zg6 bt x.1 s ((x.2.drop (s * 32)).take 32)) [] x.1).take 32 = x.2.take 32 from by
          by_cases h0 : s = 0
          . subst h0
            right
            rw [zu4 hbtl hxc hseg]
            rfl
          . rw [zwt hbtl hxc hs4 hseg (by omega)]
            exact HHD.out)
         clear hseg hxc
         have sa1 := zoe w.heap.size (x.1 * 128) s hs4
         have sa2 := zoe wb 1 s hs4
         have w1 : IntKind.i64.wrap ((s : Int) * 32) = (s : Int) * 32 := by rw [IntKind.wrap_i64]; omega
         have w2 : IntKind.i64.wrap ((s : Int) + 1) = (s : Int) + 1 := by rw [IntKind.wrap_i64]; omega
         have w3 : IntKind.i64.wrap (((s : Int) + 1) * 32) = (s : Int) * 32 + 32 := by rw [IntKind.wrap_i64]; omega
         have b1 : (x.1 : Int) < (n : Int) := by omega
         have b2 : (0 : Int) <= (x.1 : Int) := by omega
         go_upto_if 41 with fail
         obtain ⟨B, hB⟩ : ∃ B, B = (bits BinOp.and IntKind.i64 (z / 2 ^ s) 1 == 1) := ⟨_, rfl⟩
         rw [<- hB]
         clear hB
         cases B with
         | false =>
           go_wp2
           go_roundw
           case rel => exact ⟨s + 1, bt, by omega, by go_num, HBT.out, hbtl, HOTH.out, HHD.out, HONI.out⟩
           case measure => simp [intOf]; omega
         | true =>
         go_upto_region 10 with fail
         refine wp_region_noPanic ?_
         refine wp_region_held_drew (S := fun w' => w'.cell? ⟨w.heap.size + 1, 0, none⟩ = some (.slice (some ⟨w.heap.size, 0, none⟩) n c) /\ w'.cell? ⟨wb, 0, none⟩ = some (.int .i64 x.1)) (by kernel_rfl) ⟨e0, x0⟩ ?_
         intro hS0
         refine zac 0 (.pointer (some ⟨w.heap.size + 1, 0, none⟩)) (some 42) rfl rfl (.inl ⟨rfl, fun w' hSw => by go_simp⟩) hS0 ?_
         simp only [Act.put, n1, n2, n3]
         refine zac 1 (.pointer (some ⟨w.heap.size + 1, 0, none⟩)) (some 43) rfl rfl (.inl ⟨rfl, fun w' hSw => by go_simp⟩) hS0 ?_
         simp only [Act.put, n1, n2, n3]
         refine zac 2 (.pointer (some ⟨w.heap.size + 1, 0, none⟩)) (some 44) rfl rfl (.inl ⟨rfl, fun w' hSw => by go_simp⟩) hS0 ?_
         simp only [Act.put, n1, n2, n3]
         refine zac 3 (.slice (some ⟨w.heap.size, 0, none⟩) n c) (some 45) rfl rfl (.inl ⟨rfl, fun w' hSw => by have s1 := hSw.1; clear hSw; go_simp⟩) hS0 ?_
         simp only [Act.put, n1, n2, n3]
         refine zac 4 (.pointer (some ⟨wb, 0, none⟩)) (some 46) rfl rfl (.inl ⟨rfl, fun w' hSw => by go_simp⟩) hS0 ?_
         simp only [Act.put, n1, n2, n3]
         refine zac 5 (.int .i64 x.1) (some 47) rfl rfl (.inl ⟨rfl, fun w' hSw => by have s1 := hSw.2; clear hSw; go_simp⟩) hS0 ?_
         simp only [Act.put, n1, n2, n3]
         refine zac 6 (.pointer (some ⟨w.heap.size, x.1 * 128, none⟩)) (some 48) rfl rfl (.inl ⟨rfl, fun w' hSw => by clear hSw; go_simp⟩) hS0 ?_
         simp only [Act.put, n1, n2, n3]
         refine zac 7 (.int .i64 s) (some 49) rfl rfl (.inl ⟨rfl, fun w' hSw => by go_simp⟩) hS0 ?_
         simp only [Act.put, n1, n2, n3]
         refine zac 8 (.int .i64 ((s : Int) * 32)) (some 50) rfl rfl (.inl ⟨rfl, fun w' hSw => by go_simp⟩) hS0 ?_
         simp only [Act.put, n1, n2, n3]
         refine zac 9 (.int .i64 s) (some 51) rfl rfl (.inl ⟨rfl, fun w' hSw => by go_simp⟩) hS0 ?_
         simp only [Act.put, n1, n2, n3]
         refine zac 10 (.int .i64 ((s : Int) + 1)) (some 52) rfl rfl (.inl ⟨rfl, fun w' hSw => by go_simp⟩) hS0 ?_
         simp only [Act.put, n1, n2, n3]
         refine zac 11 (.int .i64 ((s : Int) * 32 + 32)) (some 53) rfl rfl (.inl ⟨rfl, fun w' hSw => by go_simp⟩) hS0 ?_
         simp only [Act.put, n1, n2, n3]
         refine zac 12 (.slice (some ⟨w.heap.size, x.1 * 128 + s * 32, none⟩) 32 (128 - s * 32)) (some 54) rfl rfl (.inl ⟨rfl, fun w' hSw => by clear hSw; go_simp⟩) hS0 ?_
         simp only [Act.put, n1, n2, n3]
         refine zac 13 (.pointer (some ⟨wb, 1, none⟩)) (some 55) rfl rfl (.inl ⟨rfl, fun w' hSw => by go_simp⟩) hS0 ?_
         simp only [Act.put, n1, n2, n3]
         refine zac 14 (.int .i64 s) (some 56) rfl rfl (.inl ⟨rfl, fun w' hSw => by go_simp⟩) hS0 ?_
         simp only [Act.put, n1, n2, n3]
         refine zac 15 (.int .i64 ((s : Int) * 32)) (some 57) rfl rfl (.inl ⟨rfl, fun w' hSw => by go_simp⟩) hS0 ?_
         simp only [Act.put, n1, n2, n3]
         refine zac 16 (.int .i64 s) (some 58) rfl rfl (.inl ⟨rfl, fun w' hSw => by go_simp⟩) hS0 ?_
         simp only [Act.put, n1, n2, n3]
         refine zac 17 (.int .i64 ((s : Int) + 1)) (some 59) rfl rfl (.inl ⟨rfl, fun w' hSw => by go_simp⟩) hS0 ?_
         simp only [Act.put, n1, n2, n3]
         refine zac 18 (.int .i64 ((s : Int) * 32 + 32)) (some 60) rfl rfl (.inl ⟨rfl, fun w' hSw => by go_simp⟩) hS0 ?_
         simp only [Act.put, n1, n2, n3]
         refine zac 19 (.slice (some ⟨wb, 1 + s * 32, none⟩) 32 (128 - s * 32)) (some 61) rfl rfl (.inl ⟨rfl, fun w' hSw => by clear hSw; go_simp⟩) hS0 ?_
         simp only [Act.put, n1, n2, n3]
         refine zaw (i := 20) (by kernel_rfl) rfl rfl ?_
         refine zh5 _ (.tmp 54) (.tmp 61) 77 77 rfl 5 1 Tryz.underlying77 zgj w.heap.size (x.1 * 128 + s * 32) 32 (128 - s * 32) ⟨wb, 1 + s * 32, none⟩ 32 (128 - s * 32) rfl rfl (bc bt) 111 HBT.out.drew (bc ((x.2.drop (s * 32)).take 32)) HN1.out HSR.out HN2.out (zfx _) ?_
         intro w2 hb2 hg2 hs2
         have hO2 : Only (· = w.heap.size) wr w2 := Only.grown (Only.refl (· = w.heap.size) wr).drew hg2 fun g' e => .inl (by injection e with e; exact e.symm)
         refine ⟨⟨(hO2.cell (p := ⟨w.heap.size + 1, 0, none⟩) HEL.out (show ¬ w.heap.size + 1 = w.heap.size by omega)).trans e0, (hO2.cell (p := ⟨wb, 0, none⟩) HXI.out.lt (show ¬ wb = w.heap.size by omega)).trans x0⟩, ?_⟩
         simp only [Act.put, n1]
         refine wpAnyH_done (by kernel_rfl) ?_ _
         refine NoPanic.normal ?_
         rw [HSPL.out] at hb2
         have HB2 := zaa hb2
         have HO2 := zaa hO2
         clear hb2 hO2 hg2 hs2 hS0
         go_wp2
         go_roundw
         case rel => exact ⟨s + 1, _, by omega, by go_num, HB2.out, zyi hbtl HXC.out hs4 HSEG.out, fun i hi hne => (zu3 hbtl HXC.out hs4 HSEG.out hne).trans (HOTH.out i hi hne), HSTEP.out, HONI.out.trans HO2.out⟩
         case measure => simp [intOf]; omega
       . have s1 : ¬ (s : Int) < 4 := by omega
         go_wp2
         go_roundw
         case rel => exact ⟨j + 1, bt, by omega, by go_num, HBT.out, hbtl, HTN.out.step hlt (by rw [<- HX.out]; exact HOTH.out) (by rw [<- HX.out]; exact HHD.out), HONO.out.trans HONI.out⟩
         case measure => simp [intOf]; omega
    . have j2 : (kn : Int) <= (j : Int) := by omega
      go_wp2_with (first
       | (refine wpList_load_mid rfl 113 (.tmp 24) rfl gc (j * 129) rfl (zaj x) _ HRGW.out Tryz.underlying113 rfl HSZ.out ?_)
       | (refine zb9 rfl 113 (.tmp 7) (.tmp 25) rfl wr _ _ (zaj x) rfl rfl (by rw [HWLX.out, zd0]; simp [bc]) HSZ.out (zdk _) ?_))
      go_ret
      obtain ⟨b', g', bytes', h1, h2⟩ := HF.out _ bs (HBK.out.alloc _) hbl HTN.out.more (HON.out.alloc _)
      first | exact ⟨b', h1, g', bytes', h2⟩ | exact ⟨b', g', bytes', h1, h2⟩
  . have hnl : ¬ ((j : Int) < (cache.length : Int)) := by omega
    go_wp2
    go_ret
    have hjq : j = cache.length := by omega
    have ht := HTN.out
    rw [hjq, List.take_length] at ht
    obtain ⟨b', g', bytes', h1, h2⟩ := HF.out _ bs HBK.out hbl ht HON.out
    first | exact ⟨b', h1, g', bytes', h2⟩ | exact ⟨b', g', bytes', h1, h2⟩
end Go.Proofs.YtemondlgcmpbbaaGreatDoor
