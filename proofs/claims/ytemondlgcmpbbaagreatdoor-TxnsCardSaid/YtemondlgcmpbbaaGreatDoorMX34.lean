/- Zz Zv Xf Xg Xh Xi Xj: merged. -/
import Derived.Test.YtemondlgcmpbbaaGreatDoorMX27
import Derived.Test.YtemondlgcmpbbaaGreatDoorMX33
import Derived.Test.YtemondlgcmpbbaaGreatDoorMX11
import Derived.Test.YtemondlgcmpbbaaGreatDoorMX23
import Derived.RegionTactic
import Derived.BigRegion
import Derived.Deep.QuietTactic
import Derived.Test.YtemondlgcmpbbaaGreatDoorMX28
import Derived.Test.YtemondlgcmpbbaaGreatDoorMX06
namespace Go.Proofs.YtemondlgcmpbbaaGreatDoor
open Go.RowKit
set_option maxRecDepth 100000
section
variable {B N wb : Nat} {w : World} {o : OpS}
set_option maxHeartbeats 4000000 in
theorem zrj       (h : VI w B N wb) (hg : Glob w) (hB0 : 0 < B) (hB : B <= w.heap.size) (hN : N <= 16384) (hok : o.ok) (hk : 10 <= o.kind /\ o.kind <= 20 /\ o.kind ≠ 17) (hsc : o.kind = 16 -> zmt) (hmv : o.kind = 20 -> zrh) :
   Calls Tryz.prog 108 #[.pointer (some ⟨wb, 0, none⟩), .agg o.cells] w (OwnPost B N wb w true) := by
 obtain ⟨kind, x, y, a, b, s, t⟩ := o
 have okx : I64 x := hok.x
 have oky : I64 y := hok.y
 have oka : I64 a := hok.a
 simp only at hk hsc hmv
 have hb0 : Below w.heap.size w (w.alloc (.cells #[.int .i64 kind, .int .i64 x, .int .i64 y, .int .i64 a, .int .i64 b, .string s, .string t] 124)) := (Below.refl _ _).alloc (Nat.le_refl _) _
 have HO : Hid (Calls Tryz.prog 146 #[.pointer (some ⟨wb, 0, none⟩), .agg #[.int .i64 kind, .int .i64 x, .int .i64 y, .int .i64 a, .int .i64 b, .string s, .string t]] (w.alloc (.cells #[.int .i64 kind, .int .i64 x, .int .i64 y, .int .i64 a, .int .i64 b, .string s, .string t] 124)) (zjn (w.alloc (.cells #[.int .i64 kind, .int .i64 x, .int .i64 y, .int .i64 a, .int .i64 b, .string s, .string t] 124)))) := zaa (zid (o := ⟨kind, x, y, a, b, s, t⟩) (wb := wb) (.inr (show 9 < kind by omega)))
 have HB0 := zaa hb0
 have HW := zaa h
 have HG := zaa hg
 have HK := zaa hk
 have HSC := zaa hsc
 have HMK := zaa hmv
 have HOK := zaa hok
 have hop0 : Blk (w.alloc (.cells #[.int .i64 kind, .int .i64 x, .int .i64 y, .int .i64 a, .int .i64 b, .string s, .string t] 124)) w.heap.size 124 #[.int .i64 kind, .int .i64 x, .int .i64 y, .int .i64 a, .int .i64 b, .string s, .string t] := Blk.new _ _ _
 have HOP := zaa hop0
 have k1 : ¬ 20 < kind := by omega
 have k2 : ¬ kind < 10 := by omega
 clear h hb0 hop0 hok hg hk hsc hmv
 unfold OpS.cells
 go_enter Tryz.func108, Tryz.ntmps108
 go_upto_region 4 with (first
  | (go_at_call 146; go_loud (
     refine HO.out.mono ?_; rintro e w1 ⟨rfl, hb1⟩
     have hb := HB0.out.trans (hb1.mono HB0.out.size)
     obtain ⟨keepv, disksv, xs, ds, h⟩ := HW.out
     have h1 := h.below hb
     obtain ⟨A, c, rfl, _⟩ := zad h1.disks
     have c1 : w1.cell? ⟨wb, 1, none⟩ = some (.slice A ds.length c) := zab h1.at_ 1 rfl
     have hop1 := HOP.out.below hb1 HOP.out.lt
     have c0 : w1.cell? ⟨w.heap.size, 0, none⟩ = some (.int .i64 kind) := zab hop1 0 rfl
     have cx : w1.cell? ⟨w.heap.size, 1, none⟩ = some (.int .i64 x) := zab hop1 1 rfl
     have H1 := zaa h1
     have HB := zaa hb
     have HOP1 := zaa hop1
     clear hb1 h h1 hb hop1)))
 have hdl := H1.out.dl
 have hlo := H1.out.lo
 by_cases hnil : ds.length = 0
 . have e0 : (ds.length : Int) = 0 := by omega
   go_wp2
   go_ret
   exact ⟨rfl, ⟨_, _, _, _, H1.out.more⟩, HB.out.mono hB⟩
 . have e0 : ¬ (ds.length : Int) = 0 := by omega
   have d1 : ((ds.length : Int) == 0) = false := by simpa using hnil
   have d2 : decide (20 < kind) = false := by simpa using k1
   have d3 : decide (kind < 10) = false := by simpa using k2
   have d4 : ((ds.length : Int) == 0 || decide (20 < kind) || decide (kind < 10)) = false := by rw [d1, d2, d3]; rfl
   go_upto_region 6 with fail
   have HP := zaa (fun k => zhq x ds.length (w1.drewN k) okx (by omega) (by omega))
   have hklt := zgg x ds.length (by omega)
   have HROW : Hid (∃ g, A = some ⟨g, 0, none⟩ /\ ∀ j v, (ds.map fun d => pkv d.p)[j]? = some v -> w1.cell? ⟨g, j, none⟩ = some v) := by
    obtain ⟨ad, e, _, hc⟩ := (Reads.of_own H1.out.disks).2 (by omega)
    obtain ⟨g, o, i⟩ := ad
    obtain ⟨_, _, hv, _, _, hrow, _⟩ := zad H1.out.disks
    injection hv with ea
    subst e
    obtain ⟨_, _, e2, _⟩ := hrow g rfl
    rw [<- ea] at e2
    injection e2 with e2
    injection e2 with _ eo ei
    subst eo ei
    exact ⟨g, rfl, fun j v hv => by have := hc j v hv; rwa [Addr.add_lit, Nat.zero_add] at this⟩
   obtain ⟨g, rfl, hcell⟩ := HROW.out
   obtain ⟨k, hk⟩ : ∃ k, k = pickN x ds.length := ⟨_, rfl⟩
   rw [<- hk] at HP hklt
   have hk1 : (k : Int) < (ds.length : Int) := by omega
   have hk0 : (0 : Int) <= (k : Int) := by omega
   have hkc : w1.cell? ⟨g, k, none⟩ = some (pkv ds[k].p) := hcell k _ (by simp [hklt])
   unfold pkv at hkc
   clear hk hcell HROW
   go_quiet (first | ((go_at_call 147; exact zcm (HP.out _))))
   have hmid := zit ds k hklt
   obtain ⟨dd, hdd⟩ : ∃ dd, dd = ds[k] := ⟨_, rfl⟩
   rw [<- hdd] at hmid ⊢
   obtain ⟨Wq, hWq⟩ : ∃ Wq, Wq = w1.drewN nq := ⟨_, rfl⟩
   rw [<- hWq]
   have hqq : Below w1.heap.size w1 Wq := by rw [hWq]; exact zam (Below.refl _ _) nq
   have hq := H1.out.below hqq
   have hbq : Below B w Wq := (HB.out.mono hB).trans (hqq.mono (Nat.le_trans hB HB.out.size))
   have hgq : Glob Wq := HG.out.only (fp := fun x => B <= x) ⟨hbq.os, hbq.tape, hbq.output, hbq.size, fun x hx hn => hbq.block x (by omega)⟩ (by omega)
   have o0 : Wq.cell? ⟨w.heap.size, 0, none⟩ = some (.int .i64 kind) := zab (HOP1.out.below hqq HOP1.out.lt) 0 rfl
   have hmem : dd ∈ ds := by rw [hmid]; simp
   have hDI := hq.each dd hmem
   have hDN : dd.own.Nodup := by
    have := hq.nd
    rw [hmid, List.flatMap_append, List.flatMap_cons] at this
    exact (List.nodup_append.1 (List.nodup_append.1 this).2.1).1
   have hDP : ∀ y ∈ dd.own, 0 < y := fun y hy => Nat.lt_of_lt_of_le hB0 (hq.olo dd hmem y hy)
   have hqB : B <= Wq.heap.size := Nat.le_trans hB hbq.size
   have o3 : Wq.cell? ⟨w.heap.size, 3, none⟩ = some (.int .i64 a) := zab (HOP1.out.below hqq HOP1.out.lt) 3 rfl
   have hopq := HOP1.out.below hqq HOP1.out.lt
   obtain ⟨da, hda⟩ : ∃ da, da = ds.take k := ⟨_, rfl⟩
   obtain ⟨db', hdb'⟩ : ∃ db', db' = ds.drop (k + 1) := ⟨_, rfl⟩
   rw [<- hda, <- hdb'] at hmid
   subst hmid
   have hfin : ∀ w', (∃ d', DiIs w' B (N + 1) d' /\ Turned Wq w' dd d') -> VI w' B (N + 1) wb /\ Below B w w' := fun w' ⟨d', h1, h2⟩ => ⟨⟨_, _, _, _, hq.turn h1 h2 hqB⟩, hbq.trans (hq.low hmem h2 hqB)⟩
   have hsame : VI Wq B (N + 1) wb := ⟨_, _, _, _, hq.more⟩
   have HF := zaa (zrc hDI hDN hgq hB0 hN)
   have HO2 := zaa (zui hDI hDN hgq hB0 hN hqB)
   have HFIN := zaa hfin
   have HSAME := zaa hsame
   have HBQ := zaa hbq
   have HDI := zaa hDI
   have HDN := zaa hDN
   have HDP := zaa hDP
   have HGQ := zaa hgq
   have HQB := zaa hqB
   have HOPQ := zaa hopq
   unfold pkv at HF HO2
   clear hq hbq hmem hqq hWq hdd hgq c0 cx hkc c1 hDI hDN hDP hqB hfin hsame hda hdb' hopq
   by_cases e10 : kind = 10
   . subst e10
     go_wp2_with (go_at_call 148; refine HF.out.mono ?_; rintro e w' ⟨rfl, hd⟩)
     go_ret
     exact ⟨rfl, HFIN.out w' hd⟩
   . by_cases e11 : kind = 11
     . subst e11
       go_wp2_with (go_at_call 149; refine HO2.out.mono ?_; rintro e w' ⟨rfl, hd⟩)
       go_ret
       exact ⟨rfl, HFIN.out w' hd⟩
     . have f10 : (kind == 10) = false := by simpa using e10
       have f11 : (kind == 11) = false := by simpa using e11
       obtain ⟨sl, m, bytes, kM, kW, H⟩ := HDI.out
       cases hst : dd.st with
       | none =>
         have hx : sl.x = .pointer none := by
          have h1 := H.st
          unfold StIs at h1
          rw [hst] at h1
          exact h1
         obtain ⟨db, n, may, emp, were, wild, bit, xv, cc, commits, poi, tsv, lists, want⟩ := sl
         simp only at hx
         subst hx
         have x7 := (zbi H.dk.at_).1
         clear H
         go_wp2
         go_ret
         exact ⟨rfl, HSAME.out, HBQ.out⟩
       | some σ =>
         obtain ⟨q1, q2, q3, q4, hσ⟩ := H.sok hst
         have hlen := hσ.len
         obtain ⟨A, cap, hv, _, _, hv2⟩ := zad hσ.row
         clear hv2
         have hrow := hσ.row
         rw [hv] at hrow
         have x7 : Wq.cell? ⟨dd.p, 7, none⟩ = some (.pointer (some ⟨σ.x, 0, none⟩)) := by
          have := q1
          unfold pkv at this
          rw [<- this]
          exact zab H.dk.at_ 7 rfl
         have x11 : Wq.cell? ⟨dd.p, 11, none⟩ = some (.slice A σ.ts.length cap) := by
          rw [<- hv, <- q4]
          exact zab H.dk.at_ 11 rfl
         have HROW := zaa hrow
         clear H hσ hrow q1 q2 q3 q4
         by_cases e12 : kind = 12
         . subst e12
           have HBT := zaa (fun wr => zs7 wr HDI.out HDN.out hst HGQ.out hN HQB.out)
           unfold pkv at HBT
           by_cases ea : a = 0
           . subst ea
             go_wp2_with (go_at_call 150; refine (HBT.out _).mono ?_; rintro e w' ⟨rfl, hd⟩)
             go_ret
             exact ⟨rfl, HFIN.out w' hd⟩
           . have fa : (a == 0) = false := by simpa using ea
             go_wp2_with (go_at_call 150; refine (HBT.out _).mono ?_; rintro e w' ⟨rfl, hd⟩)
             go_ret
             exact ⟨rfl, HFIN.out w' hd⟩
         . have f12 : (kind == 12) = false := by simpa using e12
           by_cases hnil2 : σ.ts.length = 0
           . have n1 : (σ.ts.length : Int) = 0 := by omega
             go_wp2
             go_ret
             exact ⟨rfl, HSAME.out, HBQ.out⟩
           . have n1 : ¬ (σ.ts.length : Int) = 0 := by omega
             have n2 : ((σ.ts.length : Int) == 0) = false := by simpa using n1
             have oy : Wq.cell? ⟨w.heap.size, 2, none⟩ = some (.int .i64 y) := zab HOPQ.out 2 rfl
             have HP2 := zaa (fun q => zhq y σ.ts.length (Wq.drewN q) oky (by omega) (by omega))
             have hjl := zgg y σ.ts.length (by omega)
             obtain ⟨j, hj⟩ : ∃ j, j = pickN y σ.ts.length := ⟨_, rfl⟩
             rw [<- hj] at HP2 hjl
             obtain ⟨τ, hτ⟩ : ∃ τ, τ = σ.ts[j] := ⟨_, rfl⟩
             obtain ⟨g2, hA2, hgc⟩ := zga HROW.out j (pkv τ.l) (by rw [hτ]; simp [hjl])
             subst hA2
             unfold pkv at hgc
             have hmid2 := zit σ.ts j hjl
             rw [<- hτ] at hmid2
             have j0 : (0 : Int) <= (j : Int) := by omega
             have j1 : (j : Int) < (σ.ts.length : Int) := by omega
             have HON := zaa (fun W (hb : Below Wq.heap.size Wq W) => zri ⟨kind, x, y, a, b, s, t⟩ HOK.out (by have := HK.out; show kind = 13 \/ kind = 14 \/ kind = 15 \/ kind = 18 \/ kind = 19 \/ kind = 20 \/ kind = 16; omega) HSC.out HMK.out (HDI.out.below hb) HDN.out HDP.out hst hmid2 (HGQ.out.only (fp := fun _ => False) (Only.of_below hb) id) hN (Nat.le_trans HQB.out hb.size))
             unfold pkv OpS.cells at HON
             clear hj hτ hmid2
             go_upto_region 18 with fail
             go_quiet (first | ((go_at_call 147; exact zcm (HP2.out _))))
             obtain ⟨Wr, hWr⟩ : ∃ Wr, Wr = Wq.drewN nq := ⟨_, rfl⟩
             rw [<- hWr]
             have hbr : Below Wq.heap.size Wq Wr := by rw [hWr]; exact zam (Below.refl _ _) _
             have hopr := HOPQ.out.below hbr HOPQ.out.lt
             have r0 : Wr.cell? ⟨w.heap.size, 0, none⟩ = some (.int .i64 kind) := zab hopr 0 rfl
             have r1 : Wr.cell? ⟨w.heap.size, 1, none⟩ = some (.int .i64 x) := zab hopr 1 rfl
             have r2 : Wr.cell? ⟨w.heap.size, 2, none⟩ = some (.int .i64 y) := zab hopr 2 rfl
             have r3 : Wr.cell? ⟨w.heap.size, 3, none⟩ = some (.int .i64 a) := zab hopr 3 rfl
             have r4 : Wr.cell? ⟨w.heap.size, 4, none⟩ = some (.int .i64 b) := zab hopr 4 rfl
             have r5 : Wr.cell? ⟨w.heap.size, 5, none⟩ = some (.string s) := zab hopr 5 rfl
             have r6 : Wr.cell? ⟨w.heap.size, 6, none⟩ = some (.string t) := zab hopr 6 rfl
             have HON2 := zaa (HON.out Wr hbr)
             have HBR := zaa hbr
             clear hbr hopr hWr x7 x11 oy o3 o0 hgc
             go_wp2_with (first
              | (go_at_call 151; go_loud (
                 refine HON2.out.mono ?_; rintro e w2 ⟨rfl, hd⟩
                 obtain ⟨d', hd1, hd2⟩ := (TurnPost.pre (e := .returned (.bool true)) HBR.out ⟨rfl, hd⟩).2
                 have HPF := zaa (HFIN.out w2 ⟨d', hd1, hd2⟩)
                 obtain ⟨s2, m2, by2, kM2, kW2, H2⟩ := hd1
                 have hlk := zrg H2.dk.at_ (ls := d'.ls) (B := B) (N := N + 1) (by rw [H2.lists, H2.want]; exact H2.ls) (by omega)
                 have hpp : d'.p = dd.p := hd2.p
                 simp only at hlk
                 rw [hpp] at hlk
                 unfold pkv at hlk
                 have HLK := zaa hlk
                 clear hd hd2 H2 hlk r0 r1 r2 r3 r4 r5 r6))
              | (go_at_call 152; refine HLK.out.mono ?_; rintro e w3 ⟨rfl, hb3⟩))
             go_ret
             obtain ⟨⟨kv', dv', xs', ds', hV⟩, hBel⟩ := HPF.out
             exact ⟨rfl, ⟨kv', dv', xs', ds', hV.below hb3⟩, hBel.trans (hb3.mono (Nat.le_trans hB hBel.size))⟩
end
theorem zrk : zlo VI := fun w =>
 ⟨.slice none 0 0, .slice none 0 0, [], [], ⟨Blk.new _ _ _, World.ownsRow_nil _ _ _ _, World.ownsRow_nil _ _ _ _, (fun d hd => by cases hd), List.nodup_nil, (fun d hd => by cases hd), Nat.zero_le _, Nat.zero_le _, Nat.le_refl _⟩⟩
set_option maxHeartbeats 4000000 in
theorem zrl (base : Nat) (v : Value) (l : List (Str × Str)) (w : World) (h : w.ownsRow base 68 2 v l.length (zaf l)) (hl : l.length <= 1000) :
   Calls Tryz.prog 200 #[v] w fun e w' => ∃ v', e = .returned v' /\ RRow w' v' l /\ Below w.heap.size w w' := by
 obtain ⟨i0, hi0, hz0, hz1, hz2⟩ := info_parts ze3
 have HI0 := zaa hi0
 have HZ0 := zaa hz0
 have HZ1 := zaa hz1
 have HZ2 := zaa hz2
 obtain ⟨A, c, rfl, hnc, hcm, hx0⟩ := zad h
 clear hx0
 obtain ⟨n, hn⟩ : ∃ n, n = l.length := ⟨_, rfl⟩
 rw [<- hn] at h hl hnc ⊢
 obtain ⟨hc1, hc2, hc⟩ := zca h hn
 have HN := zaa hn
 have HC := zaa hc
 clear hi0 hz0 hz1 hz2 h hc hn
 go_enter Tryz.func200, Tryz.ntmps200
 go_wp2
 go_loopw [3, 4] (fun o i wr => ∃ j : Nat, j <= n /\ i = .int .i64 j /\ wr.ownsRow w.heap.size 303 2 o j (zaf (l.take j)) /\ Below w.heap.size w wr) (fun _ i _ => n - (intOf i).toNat)
 case atStart => exact ⟨0, Nat.zero_le _, rfl, World.ownsRow_nil _ _ _ _, Below.refl _ _⟩
 case round =>
  obtain ⟨j, hj, rfl, hown, hbr⟩ := hrel
  obtain ⟨A1, c1, rfl, hrest⟩ := zad hown
  by_cases hlt : j < n
  . have m0 : (0 : Int) <= (j : Int) := by omega
    have m1 : (j : Int) < (n : Int) := by omega
    have hjl : j < l.length := by have := HN.out; omega
    obtain ⟨⟨a, b⟩, hx⟩ : ∃ x, l[j]? = some x := ⟨_, List.getElem?_eq_getElem hjl⟩
    have hnext : zaf (l.take (j + 1)) = zaf (l.take j) ++ [.string a, .string b] := by rw [List.take_add_one, hx, Option.toList_some, za1]
    obtain ⟨g, rfl, x1, x2⟩ := HC.out j _ hx
    replace x1 := za4 x1 hbr
    replace x2 := za4 x2 hbr
    have HX := zaa hnext
    have HO := zaa hown
    have HBR := zaa hbr
    have hsz := hbr.size
    clear hown hbr hnext hx hjl hrest
    go_wp2
    go_region_law (refine zc9 _ rfl (.tmp 11) (.tmp 23) 239 rfl w.heap.size 303 i0 _ 2 32 Tryz.underlying239 HI0.out HZ0.out HZ1.out HZ2.out rfl (by decide) (.slice A1 j c1) j (zaf (l.take j)) (by simp [Act.eval]) (HO.out.drew.alloc _) (wr.heap.size + 1) (some ⟨wr.heap.size, 0, none⟩) 1 1 [.string a, .string b] (by simp [Act.eval]) ⟨rfl, fun _ => ⟨_, rfl, Nat.lt_succ_self _, zc4 _ _ _ _ _ rfl⟩⟩ (by simp [Value.oneCell']) (by unfold maxLen; omega) (by omega) (Nat.le_trans (Nat.le_succ_of_le hsz) (Nat.le_of_eq (World.size_alloc _ _).symm)) ?_; intro v2 w2 hown2 hgr2 hat2)
    all_goals (
     have hbr2 : Below w.heap.size w w2 := ((Below.drew HBR.out).alloc hsz (.cells #[.string a, .string b] 303)).grown hgr2 (Nat.le_trans (Nat.le_succ_of_le hsz) (Nat.le_of_eq (World.size_alloc _ _).symm)) (fun g' e => (zaz HO.out e).1)
     have HO2 := zaa hown2
     have HBR2 := zaa hbr2
     clear hown2 hgr2 hat2 hbr2
     simp only [Act.put, List.setIfInBounds_toArray]
     go_wp2
     go_roundw)
    all_goals first
     | (case rel => exact ⟨j + 1, by omega, by go_num, by rw [HX.out]; exact HO2.out, HBR2.out⟩)
     | (case measure => simp [intOf]; omega)
  . have m1 : ¬ (j : Int) < (n : Int) := by omega
    obtain rfl : j = n := by omega
    have HO := zaa hown
    have HBR := zaa hbr
    clear hown hbr hrest
    go_wp2
    go_ret
    refine ⟨_, rfl, ?_, HBR.out⟩
    have := HO.out
    rw [HN.out, List.take_length] at this
    exact ⟨_, by rw [HN.out]; exact this⟩
set_option maxHeartbeats 4000000 in
theorem ztd (va vb : Value) (l : List (Str × Str)) (w : World) (ha : RRow w va l) (hb : RRow w vb l) (hl : l.length <= 1000) :
   Calls Tryz.prog 211 #[va, vb] w fun e w' => e = .returned (.bool true) /\ Below w.heap.size w w' := by
 obtain ⟨A, c, rfl⟩ := ha.form
 obtain ⟨B, d, rfl⟩ := hb.form
 obtain ⟨ba, ha⟩ := ha
 obtain ⟨bb, hb⟩ := hb
 obtain ⟨n, hn⟩ : ∃ n, n = l.length := ⟨_, rfl⟩
 rw [<- hn] at ha hb hl ⊢
 obtain ⟨hc1, hc2, hc⟩ := zca ha hn
 obtain ⟨hd1, hd2, hd⟩ := zca hb hn
 have HN := zaa hn
 have HC := zaa hc
 have HD := zaa hd
 clear ha hb hc hd hn
 go_enter Tryz.func211, Tryz.ntmps211
 go_wp2
 go_loopw [5] (fun i wr => ∃ j : Nat, j <= n /\ i = .int .i64 j /\ Below w.heap.size w wr) (fun i _ => n - (intOf i).toNat)
 case atStart => exact ⟨0, Nat.zero_le _, rfl, Below.refl _ _⟩
 case round =>
  obtain ⟨j, hj, rfl, hbr⟩ := hrel
  by_cases hlt : j < n
  . have m0 : (0 : Int) <= (j : Int) := by omega
    have m1 : (j : Int) < (n : Int) := by omega
    have hjl : j < l.length := by have := HN.out; omega
    obtain ⟨⟨a, b⟩, hx⟩ : ∃ x, l[j]? = some x := ⟨_, List.getElem?_eq_getElem hjl⟩
    obtain ⟨g, rfl, x1, x2⟩ := HC.out j _ hx
    obtain ⟨g2, rfl, y1, y2⟩ := HD.out j _ hx
    replace x1 := za4 x1 hbr
    replace x2 := za4 x2 hbr
    replace y1 := za4 y1 hbr
    replace y2 := za4 y2 hbr
    have z1 : (a.toList == a.toList) = true := by simp
    have z2 : (b.toList == b.toList) = true := by simp
    have hwr : IntKind.i64.wrap ((j : Int) + 1) = (j : Int) + 1 := by rw [IntKind.wrap_i64]; omega
    have HBR := zaa hbr
    clear hbr hx hjl
    go_upto_region 6 with fail
    go_quiet (fail)
    go_wp2
    go_roundw
    case rel => exact ⟨j + 1, by omega, by go_num, zam HBR.out _⟩
    case measure => simp [intOf]; omega
  . have m1 : ¬ (j : Int) < (n : Int) := by omega
    have HBR := zaa hbr
    clear hbr
    go_wp2
    go_ret
    exact ⟨rfl, HBR.out⟩
theorem zrm (w : World) (a b c d : Int) (ha : 0 <= a /\ a < 256) (hb : 0 <= b /\ b < 256) (hc : 0 <= c /\ c < 256) (hd : 0 <= d /\ d < 256) :
   ∃ s : Str, (convert 77 9 (.slice (some ⟨w.heap.size, 0, none⟩) 5 5)).run Tryz.prog (w.alloc (.cells #[.int .u8 a, .int .u8 b, .int .u8 c, .int .u8 d, .int .u8 33] 5)) = .ok (.string s) (w.alloc (.cells #[.int .u8 a, .int .u8 b, .int .u8 c, .int .u8 d, .int .u8 33] 5)) := by
 obtain ⟨W, hW⟩ : ∃ W, W = w.alloc (.cells #[.int .u8 a, .int .u8 b, .int .u8 c, .int .u8 d, .int .u8 33] 5) := ⟨_, rfl⟩
 have hB : Blk W w.heap.size 5 #[.int .u8 a, .int .u8 b, .int .u8 c, .int .u8 d, .int .u8 33] := by rw [hW]; exact Blk.new _ _ _
 rw [<- hW]
 have hu : ∀ x : Int, 0 <= x /\ x < 256 -> (((UInt8.ofNat x.toNat).toNat : Nat) : Int) = x := fun x hx => by
  have : (UInt8.ofNat x.toNat).toNat = x.toNat % 256 := UInt8.toNat_ofNat'
  rw [this]; omega
 have := run_convert_bytes_back (P := Tryz.prog) W 77 9 5 ⟨w.heap.size, 0, none⟩ 5 [UInt8.ofNat a.toNat, UInt8.ofNat b.toNat, UInt8.ofNat c.toNat, UInt8.ofNat d.toNat, 33] Tryz.underlying77 Tryz.underlying5 Tryz.underlying9 (fun j hj => by
  rw [Addr.add_lit, Nat.zero_add, hB.cell]
  match j, hj with
  | 0, _ => exact congrArg (fun x => some (Value.int .u8 x)) (hu a ha).symm
  | 1, _ => exact congrArg (fun x => some (Value.int .u8 x)) (hu b hb).symm
  | 2, _ => exact congrArg (fun x => some (Value.int .u8 x)) (hu c hc).symm
  | 3, _ => exact congrArg (fun x => some (Value.int .u8 x)) (hu d hd).symm
  | 4, _ => rfl
  | j + 5, hj => simp at hj; omega)
 exact ⟨_, this⟩
set_option maxHeartbeats 1000000 in
theorem ziu (n : Int) (w : World) : Calls Tryz.prog 217 #[.int .i64 n] w fun e w' => ∃ s : Str, e = .returned (.string s) /\ Below w.heap.size w w' := by
 obtain ⟨s, hs⟩ := zrm w (n / 16777216 % 256) (n / 65536 % 256) (n / 256 % 256) (n % 256) (by omega) (by omega) (by omega) (by omega)
 go_enter Tryz.func217, Tryz.ntmps217
 go_wp2
 go_ret
 refine ⟨_, rfl, ?_⟩
 exact (Below.refl _ _).alloc (Nat.le_refl _) _
theorem zjr : (Tryz.prog.info? 68).map (fun i => (i.zero, i.size, i.bytes)) = some (some (.agg #[.string ByteArray.empty, .string ByteArray.empty]), 2, 32) := by kernel_rfl
def zgs (k : Nat) : List Value := List.replicate (k * 2) (.string ByteArray.empty)
theorem zpz (w : World) (k : Nat) (hk : k <= 1000) : (Instr.makeSlice 39 (.int .i64 k) (.int .i64 k)).run Tryz.prog w = .ok (.slice (some ⟨w.heap.size, 0, none⟩) k k) (w.alloc (.cells (zgs k).toArray 68)) := by
 obtain ⟨i0, hi0, hz0, hz1, hz2⟩ := info_parts zjr
 have := run_make (P := Tryz.prog) w 39 68 i0 _ Tryz.underlying39 hi0 hz0 .i64 .i64 k k (by omega) (Int.le_refl _) (by rw [hz2]; omega) (by omega)
 rw [hz1] at this
 simp only [Int.toNat_natCast, Value.cells] at this
 have e : madeCells #[Value.string ByteArray.empty, Value.string ByteArray.empty] (k * 2) = (zgs k).toArray := zi3 _ 2 _ (by omega)
 rw [e] at this
 exact this
section
variable {w : World} {ops : Array Oper} {rest : List Oper} {o : Oper} {a : Act} {Q : Exit -> Act -> World -> Prop}
theorem zh3 (hgd : o.guard = none) (d s : Operand) (dT sT : TypeId) (ho : o.op = .call { callee := .builtin .copy, args := #[d, s], argTypes := #[dT, sT] }) (hu : Tryz.prog.underlying dT = some (.slice 68)) (hsz : (Tryz.prog.info? 68).map (·.size) = some 2)
   (g n c base : Nat) (A : Option Addr) (l : List (Str × Str)) (hd : a.eval d = .slice (some ⟨g, 0, none⟩) n n) (hs : a.eval s = .slice A n c) (hown : w.ownsRow base 68 2 (.slice A n c) n (zaf l))
   (cur : List Value) (hg : Blk w g 68 cur.toArray) (hcur : cur.length = n * 2)
   (h : ∀ w', Blk w' g 68 (zaf l).toArray -> w.grownBy w' (some g) -> w'.heap.size = w.heap.size -> wpList Tryz.prog ops Q rest (a.put o.dst (.int .i64 n)) w') : wpList Tryz.prog ops Q (o :: rest) a w := by
 have hlen := hown.1
 rcases hown.2 with ⟨h0, h3⟩ | ⟨g2, cap, cu2, hv, _, hg2, a1, a2, a3, a4⟩
 . subst h3
   injection h0 with e1 e2 e3
   subst e1; subst e3
   have hl : zaf l = [] := List.eq_nil_of_length_eq_zero (by simpa using hlen)
   have hc : cur = [] := List.eq_nil_of_length_eq_zero (by simpa using hcur)
   rw [hc] at hg
   rw [hl] at h
   refine wpList_plain hgd fun K hK => ?_
   have hrun := run_copy_nil (P := Tryz.prog) w dT sT o.type 68 ⟨g, 0, none⟩ 0 0 hu (by rw [hsz]; rfl)
   unfold Oper.wp
   simp [execOp, ho, resolve, invoke, builtin, hd, hs, hrun, Result.andThen]
   exact hK _ _ (h w hg ⟨rfl, rfl, rfl, Nat.le_refl _, fun _ _ _ => rfl⟩ rfl)
 . injection hv with e1 e2 e3
   subst e1; subst e3
   have hm : Nat.min n n = n := Nat.min_self n
   refine zbv w hgd d s dT sT ho 68 2 hu hsz g 0 n n ⟨g2, 0, none⟩ n c hd hs cur 68 hg (zaf l) (by rw [hlen, hm]) (fun j v hv => ?_) (by rw [hlen, hcur]; omega) ?_ (fun w' h1 h2 h3 => ?_)
   . rw [Addr.add_lit, Nat.zero_add]
     have h5 : Blk w g2 68 cu2 := hg2
     rw [h5.cell]
     have h6 : cu2.toList[j]? = some v := by
      have hj : j < n * 2 := by rw [<- hlen]; exact (List.getElem?_eq_some_iff.1 hv).1
      rw [<- a4, List.getElem?_take_of_lt hj] at hv
      exact hv
     rw [<- Array.getElem?_toList]; exact h6
   . intro u hu'
     unfold zaf at hu'
     rw [List.mem_flatMap] at hu'
     obtain ⟨x, _, hx⟩ := hu'
     simp only [List.mem_cons, List.not_mem_nil, or_false] at hx
     rcases hx with rfl | rfl <;> rfl
   . have e : spl cur 0 (zaf l) = zaf l := by
       unfold spl
       rw [List.take_zero, List.nil_append, Nat.zero_add, hlen, <- hcur, List.drop_length, List.append_nil]
     rw [e] at h1
     have := h w' h1 h2 h3
     rw [hm]
     exact this
end
theorem zte : (Tryz.prog.info? 39).map (fun i => (i.zero, i.size, i.bytes)) = some (some (.slice none 0 0), 1, 24) := by kernel_rfl
theorem zrn : (Tryz.prog.info? 68).map (·.size) = some 2 := by kernel_rfl
def zvg (w w' : World) (p B n : Nat) (s : LdS) (v : Value) (l : List (Str × Str)) (xs ys : List Value) : Prop :=
 ∃ L W c, LdAt w' p { s with lists := L, want := W } /\ w'.ownsRow B 39 1 L (n + 1) (xs ++ [v]) /\ w'.ownsRow B 39 1 W (n + 1) (ys ++ [c]) /\
   w'.ownsRow w.heap.size 68 2 c l.length (zaf l) /\ (∀ g, L.ownBlock = some g -> s.lists.ownBlock = some g \/ w.heap.size <= g) /\ (∀ g, W.ownBlock = some g -> s.want.ownBlock = some g \/ w.heap.size <= g) /\
   (∀ g, L.ownBlock = some g -> W.ownBlock ≠ some g) /\ Only (fun y => y = p \/ some y = s.lists.ownBlock \/ some y = s.want.ownBlock) w w'
set_option maxHeartbeats 4000000 in
theorem zmu (p B n base : Nat) (s : LdS) (v : Value) (l : List (Str × Str)) (xs ys : List Value) (w : World) (hl : LdAt w p s) (hv : w.ownsRow base 68 2 v l.length (zaf l)) (hll : l.length <= 1000)
   (ha : w.ownsRow B 39 1 s.lists n xs) (hb : w.ownsRow B 39 1 s.want n ys) (hne : ∀ g, s.lists.ownBlock = some g -> s.want.ownBlock ≠ some g) (hB : B <= w.heap.size) (hn : n <= 100000) :
   Calls Tryz.prog 218 #[pkv p, v] w fun e w' => e = .returned (.tuple #[]) /\ zvg w w' p B n s v l xs ys := by
 obtain ⟨i0, hi0, hi1, hi2, hi3⟩ := info_parts zte
 have HI0 := zaa hi0
 have HI1 := zaa hi1
 have HI2 := zaa hi2
 have HI3 := zaa hi3
 obtain ⟨A, c, rfl, _, _, hv2⟩ := zad hv
 clear hv2
 obtain ⟨m, hm⟩ : ∃ m, m = l.length := ⟨_, rfl⟩
 obtain ⟨db, nn, may, emp, were, wild, bit, xv, cc, commits, poi, tsv, lists, want⟩ := s
 simp only at ha hb hne
 obtain ⟨A1, c1, rfl, _, _, hv2⟩ := zad ha
 clear hv2
 obtain ⟨A2, c2, rfl, _, _, hv2⟩ := zad hb
 clear hv2
 rw [<- hm] at hv hll ⊢
 have hmk := zpz w m hll
 obtain ⟨W1, hW1⟩ : ∃ W1, W1 = w.alloc (.cells (zgs m).toArray 68) := ⟨_, rfl⟩
 have hz1 : W1.heap.size = w.heap.size + 1 := by rw [hW1]; exact World.size_alloc _ _
 have hbw : Below w.heap.size w W1 := by rw [hW1]; exact (Below.refl _ _).alloc (Nat.le_refl _) _
 have hN1 : Blk W1 w.heap.size 68 (zgs m).toArray := by rw [hW1]; exact Blk.new _ _ _
 rw [<- hW1] at hmk
 have hl1 : LdAt W1 p _ := Blk.below hl hbw hl.lt
 have hv1 := zap hv hbw
 have ha1 := zap ha hbw
 have hb1 := zap hb hbw
 have hzl : (zgs m).length = m * 2 := by simp [zgs]
 have HV1 := zaa hv1
 have HN1 := zaa hN1
 have HL1 := zaa hl1
 have HA1 := zaa ha1
 have HB1 := zaa hb1
 have HBW := zaa hbw
 have HZ1 := zaa hz1
 have HZL := zaa hzl
 have HNE := zaa hne
 have HLT := zaa hl.lt
 have HBZ := zaa hB
 have HLEN := zaa hv.1
 have HM := zaa hm
 clear hv1 hN1 hl1 ha1 hb1 hbw hz1 hzl hne hi0 hi1 hi2 hi3 hl hv ha hb hW1 hm
 unfold pkv
 go_enter Tryz.func218, Tryz.ntmps218
 go_wp2_with (first
  | (
   refine zh3 rfl (.tmp 10) (.tmp 11) 39 39 rfl Tryz.underlying39 zrn w.heap.size m c base A l rfl rfl HV1.out (zgs m) HN1.out HZL.out ?_
   intro W2 hP2 hg2 hz2
   have hopl : some p ≠ some w.heap.size := fun e => by injection e with e; have := HLT.out; omega
   have hl2 : Blk W2 p 245 _ := (HL1.out : Blk _ _ _ _).grown hg2 hopl
   have hcb : w.heap.size < W2.heap.size := hP2.lt
   have HP2 := zaa hP2
   have HG2 := zaa hg2
   have HZ2 := zaa hz2
   have HL2 := zaa hl2
   have HCB := zaa hcb
   have o12 : W2.cell? ⟨p, 12, none⟩ = some (.slice A1 n c1) := zab hl2 12 rfl
   have c12 := fun o => zaj o o12
   have ha2 := World.ownsRow.kept HA1.out hg2 (.inr (zae HA1.out HN1.out (by decide)))
   have hb2 := World.ownsRow.kept HB1.out hg2 (.inr (zae HB1.out HN1.out (by decide)))
   have HA2 := zaa ha2
   have HB2 := zaa hb2
   clear hP2 hg2 hz2 hl2 hcb hmk ha2 hb2)
  | (at_builtin; (
   refine zah _ rfl (.tmp 16) (.tmp 18) 243 rfl B 39 i0 (.slice none 0 0) 1 24 Tryz.underlying243 HI0.out HI1.out HI2.out HI3.out rfl (by decide) (.slice A1 n c1) n xs (by kernel_rfl) (HA2.out.alloc _) (W2.heap.size + 1) (some ⟨W2.heap.size, 0, none⟩) 1 1 [.slice A m c] (by kernel_rfl) ⟨rfl, fun _ => ⟨_, rfl, Nat.lt_succ_self _, fun j u hu => by rw [Addr.add_lit]; exact (Blk.new W2 39 #[.slice A m c]).range (cur := [.slice A m c]) (o := 0) rfl j u hu⟩⟩ (fun u hu => by rw [List.mem_singleton.1 hu]; rfl) (by unfold maxLen; omega) (by omega) (by have := HBW.out.size; have := HZ2.out; have := HBZ.out; simp only [World.size_alloc]; omega) ?_
   intro v3 W3 hown3 hgr3 hat3
   obtain ⟨A3, c3, hv3, hx3⟩ := zad hown3
   clear hx3
   subst hv3
   have hopl : some p ≠ (Value.slice A1 n c1).ownBlock := fun e => zae HA2.out HL2.out (by decide) e.symm
   have hl3 : Blk W3 p 245 _ := (Blk.alloc HL2.out _).grown hgr3 hopl
   have hN3 : Blk W3 w.heap.size 68 _ := (Blk.alloc HP2.out _).grown hgr3 (fun e => zae HA2.out HP2.out (by decide) e.symm)
   have hb3 := World.ownsRow.kept (HB2.out.alloc (.cells #[.slice A m c] 39)) hgr3 (by
    cases e : (Value.slice A2 n c2).ownBlock with
    | none => exact .inl rfl
    | some g => exact .inr (fun k => HNE.out g k.symm e))
   have f12 : W3.frozen? ⟨p, 12, none⟩ = false := hl3.frozen 12
   have f13 : W3.frozen? ⟨p, 13, none⟩ = false := hl3.frozen 13
   have p12 : W3.cell? ⟨p, 12, none⟩ = some (.slice A1 n c1) := zab hl3 12 rfl
   have p13 : W3.cell? ⟨p, 13, none⟩ = some (.slice A2 n c2) := zab hl3 13 rfl
   have HL3 := zaa hl3
   have HN3 := zaa hN3
   have HB3 := zaa hb3
   have HOWN3 := zaa hown3
   have HGR3 := zaa hgr3
   have HAT3 := zaa hat3
   clear hl3 hN3 hb3 hown3 hgr3 hat3 o12 c12))
  | (at_builtin; (
   obtain ⟨W4, hW4⟩ : ∃ W4, W4 = W3.setCell ⟨p, 12, none⟩ (.slice A3 (n + 1) c3) := ⟨_, rfl⟩
   have hl4 := HL3.out.set_ 12 (.slice A3 (n + 1) c3)
   rw [<- hW4] at hl4
   have ho4 : Only (· = p) W3 W4 := by rw [hW4]; exact Only.set1 _ _ _ _
   have hb4 := za2 HB3.out ho4 (fun g hg e => zae HB3.out HL3.out (by decide) (by rw [hg, e]))
   have ha4 := za2 HOWN3.out ho4 (fun g hg e => zae HOWN3.out HL3.out (by decide) (by rw [hg, e]))
   have hN4 := Blk.only HN3.out ho4 (fun e => Blk.ne_ HN3.out HL3.out (by decide) e)
   have hz4 : W4.heap.size = W3.heap.size := by rw [hW4]; simp
   have hNW : Blk (W4.alloc (.cells #[.slice (some ⟨w.heap.size, 0, none⟩) m m] 39)) W3.heap.size 39 #[.slice (some ⟨w.heap.size, 0, none⟩) m m] := by rw [<- hz4]; exact Blk.new _ _ _
   rw [<- hW4]
   refine zah _ rfl (.tmp 27) (.tmp 29) 243 rfl B 39 i0 (.slice none 0 0) 1 24 Tryz.underlying243 HI0.out HI1.out HI2.out HI3.out rfl (by decide) (.slice A2 n c2) n ys (by kernel_rfl) (hb4.alloc _) (W4.heap.size + 1) (some ⟨W3.heap.size, 0, none⟩) 1 1 [.slice (some ⟨w.heap.size, 0, none⟩) m m] (by kernel_rfl) ⟨rfl, fun _ => ⟨_, rfl, by simp only [hz4]; exact Nat.lt_succ_self _, fun j u hu => by rw [Addr.add_lit]; exact hNW.range (cur := [.slice (some ⟨w.heap.size, 0, none⟩) m m]) (o := 0) rfl j u hu⟩⟩ (fun u hu => by rw [List.mem_singleton.1 hu]; rfl) (by unfold maxLen; omega) (by omega) (by have := HBW.out.size; have := HZ2.out; have := HBZ.out; have := HGR3.out.size; simp only [World.size_alloc] at this ⊢; omega) ?_
   intro v5 W5 hown5 hgr5 hat5
   obtain ⟨A5, c5, hv5, hx5⟩ := zad hown5
   clear hx5
   subst hv5
   have hopl : some p ≠ (Value.slice A2 n c2).ownBlock := fun e => zae hb4 hl4 (by decide) e.symm
   have hl5 : Blk W5 p 245 _ := (Blk.alloc hl4 _).grown hgr5 hopl
   have hN5 : Blk W5 w.heap.size 68 _ := (Blk.alloc hN4 _).grown hgr5 (fun e => zae hb4 hN4 (by decide) e.symm)
   have f13 : W5.frozen? ⟨p, 13, none⟩ = false := hl5.frozen 13
   have p13 : W5.cell? ⟨p, 13, none⟩ = some (.slice A2 n c2) := zab hl5 13 rfl
   have HL5 := zaa hl5
   have HN5 := zaa hN5
   have HA4 := zaa ha4
   have HB4 := zaa hb4
   have HO4 := zaa ho4
   have HZ4 := zaa hz4
   have HL4 := zaa hl4
   have HOWN5 := zaa hown5
   have HGR5 := zaa hgr5
   have HAT5 := zaa hat5
   clear hNW hl4 ho4 hb4 ha4 hN4 hz4 hl5 hN5 hown5 hgr5 hat5 hW4)))
 go_end0
 have hz2 := HZ2.out
 have hz1 := HZ1.out
 have hlt := HLT.out
 have o1 : Only (fun y => y = p \/ some y = (Value.slice A1 n c1).ownBlock \/ some y = (Value.slice A2 n c2).ownBlock) w W2 := Only.grown (Only.of_below HBW.out) HG2.out (fun g e => .inr (by injection e with e; omega))
 have o3 := Only.grown (o1.alloc (.cells #[.slice A m c] 39)) HGR3.out (fun g e => .inl (.inr (.inl e.symm)))
 have o4 := o3.trans (HO4.out.mono fun y _ hy => .inl hy)
 have o5 := Only.grown (o4.alloc (.cells #[.slice (some ⟨w.heap.size, 0, none⟩) m m] 39)) HGR5.out (fun g e => .inl (.inr (.inr e.symm)))
 have o6 := o5.trans ((Only.set1 W5 p 13 (.slice A5 (n + 1) c5)).mono fun y _ hy => .inl hy)
 have hne4 : ∀ g, (Value.slice A3 (n + 1) c3).ownBlock = some g -> (Value.slice A2 n c2).ownBlock ≠ some g := fun g hg k => by
  rcases HAT3.out with e | e
  . exact HNE.out g (e ▸ hg) k
  . rw [hg] at e
    injection e with e
    have := (zaz HB2.out k).2
    rw [World.size_alloc] at e
    omega
 have hA5 := World.ownsRow.kept (HA4.out.alloc (.cells #[.slice (some ⟨w.heap.size, 0, none⟩) m m] 39)) HGR5.out (by
  cases e : (Value.slice A3 (n + 1) c3).ownBlock with
  | none => exact .inl rfl
  | some g => exact .inr (fun k => hne4 g e k.symm))
 have hA6 := za2 hA5 (Only.set1 W5 p 13 (.slice A5 (n + 1) c5)) (fun g hg e => zae hA5 HL5.out (by decide) (by rw [hg, e]))
 have hW6 := za2 HOWN5.out (Only.set1 W5 p 13 (.slice A5 (n + 1) c5)) (fun g hg e => zae HOWN5.out HL5.out (by decide) (by rw [hg, e]))
 have hN6 := Blk.only HN5.out (Only.set1 W5 p 13 (.slice A5 (n + 1) c5)) (fun e => by omega)
 have hlen := HLEN.out
 refine ⟨rfl, .slice A3 (n + 1) c3, .slice A5 (n + 1) c5, _, HL5.out.set_ 13 (.slice A5 (n + 1) c5), hA6, hW6, ⟨by rw [<- HM.out]; exact hlen, .inr ⟨w.heap.size, m, _, by rw [<- HM.out], Nat.le_refl _, hN6, by rw [<- HM.out]; exact Nat.le_refl _, by unfold maxLen; omega, by rw [List.size_toArray]; exact hlen, by rw [<- HM.out, <- hlen]; exact List.take_length⟩⟩, ?_, ?_, ?_, o6⟩
 . intro g hg
   rcases HAT3.out with e | e
   . exact .inl (by rw [<- e]; exact hg)
   . rw [hg] at e
     injection e with e
     rw [World.size_alloc] at e
     exact .inr (by omega)
 . intro g hg
   rcases HAT5.out with e | e
   . exact .inl (by rw [<- e]; exact hg)
   . rw [hg] at e
     injection e with e
     rw [World.size_alloc] at e
     have := HZ4.out
     have := o3.size
     exact .inr (by omega)
 . intro g hg k
   rcases HAT5.out with e | e
   . exact hne4 g hg (e ▸ k)
   . rw [k] at e
     injection e with e
     have := (zaz HA4.out hg).2
     rw [World.size_alloc] at e
     omega
section
variable {P : Program} (w : World)
theorem zjs (base : Nat) (t ty e : TypeId) (i : TypeInfo) (z : Value) (size bytes : Nat) (ht : P.underlying t = some (.slice e)) (hi : P.info? e = some i) (hz : i.zero = some z)
   (hsize : i.size = size) (hby : i.bytes = bytes) (hzs : z.cells.size = size) (hsz : 0 < size)
   (v : Value) (n : Nat) (xs : List Value) (hown : w.ownsRow base e size v n xs)
   (a : Addr) (m c : Nat) (news : List Value) (hl : news.length = m * size) (hnews : ∀ j u, news[j]? = some u -> w.cell? (a.add j) = some u) (h1 : ∀ u ∈ news, u.oneCell' = true)
   (h63 : n + m <= maxLen) (hbytes : (n + m) * bytes <= 140737488355328) (hbase : base <= w.heap.size) :
   ∃ v' w', (Builtin.append_ #[t, t] ty #[v, .slice (some a) m c]).run P w = .ok v' w' /\ w'.ownsRow base e size v' (n + m) (xs ++ news) /\ w'.ownsRow base e size v n xs /\ w.grownBy w' v.ownBlock /\
     (v'.ownBlock = v.ownBlock \/ v'.ownBlock = some w.heap.size) := by
 rcases hown.2 with ⟨rfl, rfl⟩ | ⟨g, cap, cur, rfl, hbg, hg, hnc, hcm, hcs, htake⟩
 . obtain ⟨v', w', hrun, h2, h3, _, h5⟩ := run_append_own_at (P := P) w base t ty e i z size bytes ht hi hz hsize hby hzs hsz _ 0 xs hown a m c news hl hnews h1 h63 hbytes hbase
   exact ⟨v', w', hrun, h2, ⟨hown.1, .inl ⟨rfl, rfl⟩⟩, h3, h5⟩
 . have hlen : (xs ++ news).length = (n + m) * size := by rw [List.length_append, hown.1, hl, Nat.add_mul]
   have hlx := hown.1
   by_cases hroom : n + m <= cap
   . subst hsize
     have hfit : n * i.size + news.length <= cur.size := by rw [hl, hcs, <- Nat.add_mul]; exact Nat.mul_le_mul_right _ hroom
     have hr := run_append_room (P := P) w t ty e i ht hi g n cap cur hg a m c news hl hnews h1 hroom hfit
     have hcs' : (cur.toList.take (n * i.size) ++ news ++ cur.toList.drop (n * i.size + news.length)).toArray.size = cap * i.size := by
      simp only [List.size_toArray, List.length_append, List.length_take, List.length_drop, Array.length_toList]
      omega
     refine ⟨_, _, hr, ⟨hlen, .inr ⟨g, cap, _, rfl, hbg, setRow_heap w g cur _ e _ hg, hroom, hcm, hcs', ?_⟩⟩, ⟨hlx, .inr ⟨g, cap, _, rfl, hbg, setRow_heap w g cur _ e _ hg, hnc, hcm, hcs', ?_⟩⟩, ⟨rfl, rfl, rfl, by simp, fun k _ hk => setRow_other w g k _ (fun e => hk (by simp [Value.ownBlock, e]))⟩, Or.inl rfl⟩
     . rw [htake, <- hlen]
       exact List.take_left
     . rw [htake, <- hlx, List.append_assoc]
       exact List.take_left
   . obtain ⟨v', w', hrun, h2, h3, _, h5⟩ := run_append_own_at (P := P) w base t ty e i z size bytes ht hi hz hsize hby hzs hsz _ n xs hown a m c news hl hnews h1 h63 hbytes hbase
     subst hsize
     subst hby
     have hsmall : n + m <= 9223372036854775807 := by simp only [maxLen] at h63; omega
     have holds : ∀ j u, xs[j]? = some u -> w.cell? ((⟨g, 0, none⟩ : Addr).add j) = some u := hown.cells (g := g) rfl
     have hr := run_append_grow (P := P) w t ty e i z ht hi hz ⟨g, 0, none⟩ n cap xs hown.1 holds a m c news hl hnews (by omega) (by omega) (growslice_fits (by omega) hbytes)
     rw [hr] at hrun
     injection hrun with e1 e2
     refine ⟨v', w', by rw [hr, e1, e2], h2, ?_, h3, h5⟩
     subst e2
     exact ⟨hlx, .inr ⟨g, cap, cur, rfl, hbg, (heap_alloc_old w.drew _ (Array.getElem?_eq_some_iff.1 hg).1).trans hg, hnc, hcm, hcs, htake⟩⟩
theorem zhl {ops : Array Oper} {rest : List Oper} {o : Oper} {a : Act} {Q : Exit -> Act -> World -> Prop} (hgd : o.guard = none) (s x : Operand) (t : TypeId)
   (ho : o.op = .call { callee := .builtin .append, args := #[s, x], argTypes := #[t, t] })
   (base : Nat) (e : TypeId) (i : TypeInfo) (z : Value) (size bytes : Nat) (ht : P.underlying t = some (.slice e)) (hi : P.info? e = some i) (hz : i.zero = some z)
   (hsize : i.size = size) (hby : i.bytes = bytes) (hzs : z.cells.size = size) (hsz : 0 < size)
   (v : Value) (n : Nat) (xs : List Value) (hs : a.eval s = v) (hown : w.ownsRow base e size v n xs)
   (ad : Addr) (m c : Nat) (news : List Value) (hx : a.eval x = .slice (some ad) m c) (hl : news.length = m * size) (hnews : ∀ j u, news[j]? = some u -> w.cell? (ad.add j) = some u) (h1 : ∀ u ∈ news, u.oneCell' = true)
   (h63 : n + m <= maxLen) (hbytes : (n + m) * bytes <= 140737488355328) (hbase : base <= w.heap.size)
   (h : ∀ v' w', w'.ownsRow base e size v' (n + m) (xs ++ news) -> w'.ownsRow base e size v n xs -> w.grownBy w' v.ownBlock -> (v'.ownBlock = v.ownBlock \/ v'.ownBlock = some w.heap.size) -> wpList P ops Q rest (a.put o.dst v') w') : wpList P ops Q (o :: rest) a w := by
 refine wpList_plain hgd fun K hK => ?_
 obtain ⟨v', w', hrun, h2, h3, h4, h5⟩ := zjs (P := P) w base t o.type e i z size bytes ht hi hz hsize hby hzs hsz v n xs hown ad m c news hl hnews h1 h63 hbytes hbase
 unfold Oper.wp execOp
 simp only [ho, resolve, invoke, builtin, Sem.run_bind, Sem.run_pure, Result.andThen_ok, List.map_toArray, List.map_cons, List.map_nil, hs, hx, hrun]
 exact hK _ _ (h v' w' h2 h3 h4 h5)
end
theorem zg0 (l : List (Str × Str)) (j : Nat) (hj : j < l.length) (x : Str × Str) : zaf (l.set j x) = spl (zaf l) (j * 2) [.string x.1, .string x.2] := by
 induction l generalizing j with
 | nil => cases hj
 | cons a l ih =>
   have e : ∀ (y : Str × Str) (m : List (Str × Str)), zaf (y :: m) = Value.string y.1 :: Value.string y.2 :: zaf m := fun _ _ => rfl
   cases j with
   | zero => rw [List.set_cons_zero, e, e]; rfl
   | succ j =>
     rw [List.set_cons_succ, e, ih j (by simpa using hj), e]
     unfold spl
     rw [show (j + 1) * 2 = j * 2 + 1 + 1 by omega]
     simp only [List.take_succ_cons, List.cons_append, List.length_cons, List.length_nil, List.drop_succ_cons, show j * 2 + 1 + 1 + (0 + 1 + 1) = (j * 2 + (0 + 1 + 1)) + 1 + 1 by omega]
theorem zh4 {w : World} {ops : Array Oper} {rest : List Oper} {o : Oper} {a : Act} {Q : Exit -> Act -> World -> Prop} (hgd : o.guard = none) (ty : TypeId) (x y : Operand) (ho : o.op = .store ty x y) (hi : (Tryz.prog.info? ty).map (·.size) = some 2)
   (base n g j c : Nat) (l : List (Str × Str)) (hown : w.ownsRow base 68 2 (.slice (some ⟨g, 0, none⟩) n c) n (zaf l)) (hn : n = l.length) (hj : j < n) (p q : Str)
   (hx : a.eval x = .pointer (some ⟨g, j * 2, none⟩)) (hy : a.eval y = .agg #[.string p, .string q])
   (h : ∀ w', w'.ownsRow base 68 2 (.slice (some ⟨g, 0, none⟩) n c) n (zaf (l.set j (p, q))) -> w.grownBy w' (some g) -> w'.heap.size = w.heap.size -> wpList Tryz.prog ops Q rest (a.put o.dst undef) w') : wpList Tryz.prog ops Q (o :: rest) a w := by
 have hlen := hown.1
 rcases hown.2 with ⟨h0, h3⟩ | ⟨g2, cap, cur, hv, hb2, hg, hnc, hcm, hcs, htake⟩
 . injection h0 with e1 e2 e3; omega
 . injection hv with e1 _ e3
   injection e1 with e1
   injection e1 with e1 _ _
   subst e1; subst e3
   have hcl : cur.toList.length = c * 2 := by rw [Array.length_toList]; exact hcs
   have hnl : (n * 2) <= c * 2 := by omega
   refine ziw hgd ty x y ho g (j * 2) [.string p, .string q] hx hy 68 cur.toList hg (by rw [hcl]; simp only [List.length_cons, List.length_nil]; omega) hi (fun u hu => ?_) (fun w' h1 h2 h3 => ?_)
   . simp only [List.mem_cons, List.not_mem_nil, or_false] at hu
     rcases hu with rfl | rfl <;> rfl
   . refine h w' ⟨?_, .inr ⟨g, c, _, rfl, hb2, h1, hnc, hcm, ?_, ?_⟩⟩ h2 h3
     . rw [zg0 l j (by omega), zav (by rw [hlen]; simp only [List.length_cons, List.length_nil]; omega)]
       exact hlen
     . rw [List.size_toArray, zav (by rw [hcl]; simp only [List.length_cons, List.length_nil]; omega)]
       exact hcl
     . rw [zg0 l j (by omega), <- htake]
       unfold spl
       simp only [List.length_cons, List.length_nil]
       rw [List.take_append, List.take_append, List.take_take, List.length_append, List.length_take, hcl, List.take_take, List.drop_take, Nat.min_eq_right (show j * 2 <= n * 2 by omega), Nat.min_eq_left (show j * 2 <= c * 2 by omega), Nat.min_eq_left (show j * 2 <= n * 2 by omega)]
       simp only [List.length_cons, List.length_nil]
       rw [List.take_of_length_le (l := [Value.string p, Value.string q]) (by simp only [List.length_cons, List.length_nil]; omega)]
def KeepTo (w w' : World) (p B n : Nat) (s : LdS) (xs ys : List Value) (fp : Nat -> Prop) : Prop :=
 ∃ L W, ∃ e1 e2 : LsI, LdAt w' p { s with lists := L, want := W } /\ w'.ownsRow B 39 1 L (n + 2) (xs ++ [e1.a, e2.a]) /\ w'.ownsRow B 39 1 W (n + 2) (ys ++ [e1.b, e2.b]) /\
   (∀ e, e = e1 \/ e = e2 -> (∃ base, w'.ownsRow base 68 2 e.a e.l.length (zaf e.l)) /\ ∃ base, w'.ownsRow base 68 2 e.b e.l.length (zaf e.l)) /\
   (∀ g, L.ownBlock = some g -> s.lists.ownBlock = some g \/ w.heap.size <= g) /\ (∀ g, W.ownBlock = some g -> s.want.ownBlock = some g \/ w.heap.size <= g) /\
   (∀ g, L.ownBlock = some g -> W.ownBlock ≠ some g) /\ Only (fun y => fp y \/ y = p \/ some y = s.lists.ownBlock \/ some y = s.want.ownBlock) w w'
set_option maxHeartbeats 4000000 in
theorem ztf (p B n base : Nat) (s : LdS) (v : Value) (l : List (Str × Str)) (xs ys : List Value) (w : World) (hl : LdAt w p s) (hv : w.ownsRow base 68 2 v l.length (zaf l)) (hll : l.length <= 900)
   (ha : w.ownsRow B 39 1 s.lists n xs) (hb : w.ownsRow B 39 1 s.want n ys) (hne : ∀ g, s.lists.ownBlock = some g -> s.want.ownBlock ≠ some g) (hB : B <= w.heap.size) (hn : n <= 90000) (hbase : base <= w.heap.size) :
   Calls Tryz.prog 212 #[pkv p, v] w fun e w' => e = .returned (.tuple #[]) /\ KeepTo w w' p B n s xs ys (fun y => some y = v.ownBlock) := by
 obtain ⟨i0, hi0, hi1, hi2, hi3⟩ := info_parts zjr
 have HI0 := zaa hi0
 have HI1 := zaa hi1
 have HI2 := zaa hi2
 have HI3 := zaa hi3
 obtain ⟨A, c, rfl, hnc, hcm, hv2⟩ := zad hv
 clear hv2
 obtain ⟨m, hm⟩ : ∃ m, m = l.length := ⟨_, rfl⟩
 obtain ⟨db, nn, may, emp, were, wild, bit, xv, cc, commits, poi, tsv, lists, want⟩ := s
 simp only at ha hb hne
 obtain ⟨A1, c1, rfl, _, _, hv2⟩ := zad ha
 clear hv2
 rw [<- hm] at hv hll hnc ⊢
 have k12 : w.cell? ⟨p, 12, none⟩ = some (.slice A1 n c1) := zab hl 12 rfl
 have HL := zaa hl
 have HV := zaa hv
 have HA := zaa ha
 have HB := zaa hb
 have HNE := zaa hne
 have HM := zaa hm
 have HBZ := zaa hB
 clear hi0 hi1 hi2 hi3 hl hv ha hb hne hm hB
 unfold pkv
 go_enter Tryz.func212, Tryz.ntmps212
 go_wp2
 go_loopw [5] (fun i wr => ∃ (j : Nat) (ks : List (Str × Str)), j <= m /\ i = .int .i64 j /\ m = ks.length /\ wr.ownsRow base 68 2 (.slice A m c) m (zaf ks) /\ Only (fun y => some y = (Value.slice A m c).ownBlock) w wr) (fun i _ => m - (intOf i).toNat)
 case atStart => exact ⟨0, l, Nat.zero_le _, rfl, HM.out, HV.out, Only.refl _ _⟩
 case round =>
  obtain ⟨j, ks, hj, rfl, hks, hown, hor⟩ := hrel
  by_cases hlt : j < m
  . have m0 : (0 : Int) <= (j : Int) := by omega
    have m1 : (j : Int) < (m : Int) := by omega
    have hA := hown.2
    have hA' : ∃ g, A = some ⟨g, 0, none⟩ := by
     rcases hA with ⟨_, h0⟩ | ⟨g, cap, cu, hv, _⟩
     . omega
     . injection hv with e; exact ⟨g, e⟩
    obtain ⟨g, rfl⟩ := hA'
    clear hA
    have HO := zaa hown
    have HR := zaa hor
    have HK := zaa hks
    clear hown hor hks
    go_wp2_with (first
     | (go_at_call 217; refine (ziu _ _).mono ?_; rintro e w1 ⟨sm, rfl, hb1⟩
        have HB1 := zaa hb1
        clear hb1)
     | ((
        refine zh4 rfl 68 (.tmp 30) (.tmp 29) rfl zrn base m g j c ks (zap HO.out HB1.out) HK.out hlt sm ByteArray.empty rfl rfl ?_
        intro w2 hown2 hgr2 hz2
        have HOWN2 := zaa hown2
        have HGR2 := zaa hgr2
        clear hown2 hgr2 hz2)))
    go_roundw
    case rel =>
     refine ⟨j + 1, ks.set j (sm, ByteArray.empty), by omega, by go_num, by rw [List.length_set]; exact HK.out, HOWN2.out, ?_⟩
     exact Only.grown (HR.out.below HB1.out) HGR2.out (fun g' e => .inl e.symm)
    case measure => simp [intOf]; omega
  . have hjm : j = m := by omega
    subst hjm
    have hz := hor.size
    have hlr : LdAt wr p _ := Blk.only HL.out hor (fun e => zae HV.out HL.out (by decide) e.symm)
    have har := za2 HA.out hor (fun g hg e => zdf HV.out HA.out (by decide) (e.symm.trans hg.symm) (by rw [<- e]; simp))
    have hbr := za2 HB.out hor (fun g hg e => zdf HV.out HB.out (by decide) (e.symm.trans hg.symm) (by rw [<- e]; simp))
    have HLR := zaa hlr
    have HAR := zaa har
    have HBR := zaa hbr
    have HO := zaa hown
    have HR := zaa hor
    have HK := zaa hks
    clear hown hor hks hlr har hbr k12
    go_wp2_with (first
     | (go_at_call 217; refine (ziu _ wr).mono ?_; rintro e w1 ⟨sa, rfl, hb1⟩
        have HB1 := zaa hb1
        clear hb1)
     | (go_at_call 217; refine (ziu _ w1).mono ?_; rintro e w2 ⟨sb, rfl, hb2⟩
        have hb3 := HB1.out.trans (hb2.mono HB1.out.size)
        have HB3 := zaa hb3
        clear hb2 hb3)
     | (at_builtin; (
        have hz3 := HB3.out.size
        have hv3 := zap HO.out HB3.out
        refine zhl _ rfl (.tmp 37) (.tmp 42) 39 rfl base 68 i0 _ 2 32 Tryz.underlying39 HI0.out HI1.out HI2.out HI3.out rfl (by decide) (.slice A j c) j (zaf ks) (by kernel_rfl) (hv3.alloc _) ⟨w2.heap.size, 0, none⟩ 2 2 [.string sa, .string ByteArray.empty, .string sb, .string ByteArray.empty] (by kernel_rfl) rfl (fun t u hu => by rw [Addr.add_lit]; exact (Blk.new w2 68 #[.string sa, .string ByteArray.empty, .string sb, .string ByteArray.empty]).range (cur := [.string sa, .string ByteArray.empty, .string sb, .string ByteArray.empty]) (o := 0) rfl t u hu) (fun u hu => by simp only [List.mem_cons, List.not_mem_nil, or_false] at hu; rcases hu with rfl | rfl | rfl | rfl <;> rfl) (by unfold maxLen; omega) (by omega) (by simp only [World.size_alloc]; omega) ?_
        intro v4 w4 hown4 hv4 hgr4 hat4
        obtain ⟨A4, c4, hv4', hx4⟩ := zad hown4
        clear hx4
        subst hv4'
        have ho4 : Only (fun y => some y = (Value.slice A j c).ownBlock) wr w4 := Only.grown ((Only.of_below HB3.out).alloc (.cells #[.string sa, .string ByteArray.empty, .string sb, .string ByteArray.empty] 68)) hgr4 (fun g e => .inl e.symm)
        have hl4 : LdAt w4 p _ := Blk.only HLR.out ho4 (fun e => zae HO.out HLR.out (by decide) e.symm)
        have ha4 := za2 HAR.out ho4 (fun g hg e => zdf HO.out HAR.out (by decide) (e.symm.trans hg.symm) (by rw [<- e]; simp))
        have hb4 := za2 HBR.out ho4 (fun g hg e => zdf HO.out HBR.out (by decide) (e.symm.trans hg.symm) (by rw [<- e]; simp))
        have hvk : w4.ownsRow base 68 2 (.slice A j c) ks.length (zaf ks) := by rw [<- HK.out]; exact hv4
        have HVK := zaa hvk
        clear hvk
        have HL4 := zaa hl4
        have HA4 := zaa ha4
        have HB4 := zaa hb4
        have HOWN4 := zaa hown4
        have HV4 := zaa hv4
        have HO4 := zaa ho4
        clear hown4 hv4 hgr4 hat4 ho4 hl4 ha4 hb4 hv3 hz3))
     | (go_at_call 218
        have hkl := HK.out
        have HH := zaa (zmu p B n base _ (.slice A j c) ks xs ys w4 HL4.out HVK.out (by omega) HA4.out HB4.out HNE.out (by have := HO4.out.size; have := HBZ.out; omega) (by omega))
        unfold pkv at HH
        with_reducible refine HH.out.mono ?_
        rintro e w5 ⟨rfl, L, W, cc5, hl5, ha5, hb5, hc5, hL5, hW5, hne5, ho5⟩
        simp only at hl5 ha5 hb5 hL5 hW5 ho5
        have hfp : ∀ y cs, Blk w4 y 68 cs -> ¬ (y = p \/ some y = (Value.slice A1 n c1).ownBlock \/ some y = want.ownBlock) := fun y cs hy e => by
         rcases e with e | e | e
         . exact Blk.ne_ hy HL4.out (by decide) e
         . exact zae HA4.out hy (by decide) e.symm
         . exact zae HB4.out hy (by decide) e.symm
        have hv5 := zak HVK.out ho5 hfp
        have hg5 := zak HOWN4.out ho5 hfp
        have hpc : zaf ks ++ [.string sa, .string ByteArray.empty, .string sb, .string ByteArray.empty] = zaf (ks ++ [(sa, ByteArray.empty), (sb, ByteArray.empty)]) := by
         rw [show ks ++ [(sa, ByteArray.empty), (sb, ByteArray.empty)] = (ks ++ [(sa, ByteArray.empty)]) ++ [(sb, ByteArray.empty)] by simp, za1, za1, List.append_assoc]; rfl
        rw [hpc] at hg5
        have hl2 : j + 2 = (ks ++ [(sa, ByteArray.empty), (sb, ByteArray.empty)]).length := by rw [List.length_append]; simp [hkl]
        have hg5' : w5.ownsRow base 68 2 (.slice A4 (j + 2) c4) (ks ++ [(sa, ByteArray.empty), (sb, ByteArray.empty)]).length (zaf (ks ++ [(sa, ByteArray.empty), (sb, ByteArray.empty)])) := by rw [<- hl2]; exact hg5
        have hB5 : B <= w5.heap.size := by have := HO4.out.size; have := HBZ.out; have := ho5.size; omega
        have HH2 := zaa (zmu p B (n + 1) base _ (.slice A4 (j + 2) c4) _ _ _ w5 hl5 hg5' (by omega) ha5 hb5 hne5 hB5 (by omega))
        unfold pkv at HH2
        have HL5 := zaa hl5
        have HA5 := zaa ha5
        have HB5 := zaa hb5
        have HC5 := zaa hc5
        have HLL5 := zaa hL5
        have HWW5 := zaa hW5
        have HO5 := zaa ho5
        have HV5 := zaa hv5
        have HG5 := zaa hg5'
        clear hkl HH hl5 ha5 hb5 hc5 hL5 hW5 hne5 ho5 hfp hv5 hg5 hpc hl2 hg5' hB5)
     | (go_at_call 218; (
        with_reducible refine HH2.out.mono ?_
        rintro e w6 ⟨rfl, L6, W6, cc6, hl6, ha6, hb6, hc6, hL6, hW6, hne6, ho6⟩
        simp only at hl6 ha6 hb6 hL6 hW6 ho6
        have HL6 := zaa hl6
        have HA6 := zaa ha6
        have HB6 := zaa hb6
        have HC6 := zaa hc6
        have HLL6 := zaa hL6
        have HWW6 := zaa hW6
        have HNE6 := zaa hne6
        have HO6 := zaa ho6
        clear HH2 hl6 ha6 hb6 hc6 hL6 hW6 hne6 ho6)))
    go_end0
    have hfp : ∀ y cs, Blk w5 y 68 cs -> ¬ (y = p \/ some y = L.ownBlock \/ some y = W.ownBlock) := fun y cs hy e => by
     rcases e with e | e | e
     . exact Blk.ne_ hy HL5.out (by decide) e
     . exact zae HA5.out hy (by decide) e.symm
     . exact zae HB5.out hy (by decide) e.symm
    have o4 : Only (fun y => some y = (Value.slice A j c).ownBlock \/ y = p \/ some y = (Value.slice A1 n c1).ownBlock \/ some y = want.ownBlock) w w4 := (HR.out.trans HO4.out).mono fun y _ hy => .inl hy
    have o5 := o4.trans (HO5.out.mono fun y _ hy => .inr hy)
    have o6 := o5.trans' HO6.out (fun y hy e => by
     rcases e with e | e | e
     . exact .inr (.inl e)
     . rcases HLL5.out y e.symm with k | k
       . exact .inr (.inr (.inl k.symm))
       . have := o4.size; omega
     . rcases HWW5.out y e.symm with k | k
       . exact .inr (.inr (.inr k.symm))
       . have := o4.size; omega)
    have z4 := o4.size
    have z5 := o5.size
    refine ⟨rfl, L6, W6, ⟨.slice A j c, cc5, ks⟩, ⟨.slice A4 (j + 2) c4, cc6, ks ++ [(sa, ByteArray.empty), (sb, ByteArray.empty)]⟩, HL6.out, ?_, ?_, ?_, ?_, ?_, HNE6.out, o6⟩
    . have := HA6.out; rw [List.append_assoc] at this; exact this
    . have := HB6.out; rw [List.append_assoc] at this; exact this
    . rintro e (rfl | rfl)
      . exact ⟨⟨_, zak HV5.out HO6.out hfp⟩, _, zak HC5.out HO6.out hfp⟩
      . exact ⟨⟨_, zak HG5.out HO6.out hfp⟩, _, HC6.out⟩
    . intro g hg
      rcases HLL6.out g hg with k | k
      . rcases HLL5.out g k with k | k
        . exact .inl k
        . exact .inr (by omega)
      . exact .inr (by omega)
    . intro g hg
      rcases HWW6.out g hg with k | k
      . rcases HWW5.out g k with k | k
        . exact .inl k
        . exact .inr (by omega)
      . exact .inr (by omega)
end Go.Proofs.YtemondlgcmpbbaaGreatDoor
