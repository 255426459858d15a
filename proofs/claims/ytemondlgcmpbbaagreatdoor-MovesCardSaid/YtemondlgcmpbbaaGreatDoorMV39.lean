/- Zz Zv Mv: merged. -/
import Derived.Test.YtemondlgcmpbbaaGreatDoorMV28
import Derived.Test.YtemondlgcmpbbaaGreatDoorMV38
import Derived.Test.YtemondlgcmpbbaaGreatDoorMV11
namespace Go.Proofs.YtemondlgcmpbbaaGreatDoor
open Go.RowKit
set_option maxRecDepth 100000
section
variable {B N wb : Nat} {w : World} {o : OpS}
set_option maxHeartbeats 4000000 in
theorem zt6       (h : VI w B N wb) (hg : Glob w) (hB0 : 0 < B) (hB : B <= w.heap.size) (hN : N <= 16384) (hok : o.ok) (hk : 10 <= o.kind /\ o.kind <= 20 /\ o.kind ≠ 17) (hsc : o.kind = 16 -> zt4) :
   Calls Tryz.prog 108 #[.pointer (some ⟨wb, 0, none⟩), .agg o.cells] w (OwnPost B N wb w true) := by
 obtain ⟨kind, x, y, a, b, s, t⟩ := o
 have okx : I64 x := hok.x
 have oky : I64 y := hok.y
 have oka : I64 a := hok.a
 simp only at hk hsc
 have hb0 : Below w.heap.size w (w.alloc (.cells #[.int .i64 kind, .int .i64 x, .int .i64 y, .int .i64 a, .int .i64 b, .string s, .string t] 124)) := (Below.refl _ _).alloc (Nat.le_refl _) _
 have HO : Hid (Calls Tryz.prog 146 #[.pointer (some ⟨wb, 0, none⟩), .agg #[.int .i64 kind, .int .i64 x, .int .i64 y, .int .i64 a, .int .i64 b, .string s, .string t]] (w.alloc (.cells #[.int .i64 kind, .int .i64 x, .int .i64 y, .int .i64 a, .int .i64 b, .string s, .string t] 124)) (zkt (w.alloc (.cells #[.int .i64 kind, .int .i64 x, .int .i64 y, .int .i64 a, .int .i64 b, .string s, .string t] 124)))) := zaa (zjc (o := ⟨kind, x, y, a, b, s, t⟩) (wb := wb) (.inr (show 9 < kind by omega)))
 have HB0 := zaa hb0
 have HW := zaa h
 have HG := zaa hg
 have HK := zaa hk
 have HSC := zaa hsc
 have HOK := zaa hok
 have hop0 : Blk (w.alloc (.cells #[.int .i64 kind, .int .i64 x, .int .i64 y, .int .i64 a, .int .i64 b, .string s, .string t] 124)) w.heap.size 124 #[.int .i64 kind, .int .i64 x, .int .i64 y, .int .i64 a, .int .i64 b, .string s, .string t] := Blk.new _ _ _
 have HOP := zaa hop0
 have k1 : ¬ 20 < kind := by omega
 have k2 : ¬ kind < 10 := by omega
 clear h hb0 hop0 hok hg hk hsc
 unfold OpS.cells
 go_enter Tryz.func108, Tryz.ntmps108
 go_upto_region 4 with (first
  | (go_at_call 146; go_loud (
     refine HO.out.mono ?_; rintro e w1 ⟨rfl, hb1⟩
     have hb := HB0.out.trans (hb1.mono HB0.out.size)
     obtain ⟨keepv, disksv, xs, ds, h⟩ := HW.out
     have h1 := h.below hb
     obtain ⟨A, c, rfl, _⟩ := zaf h1.disks
     have c1 : w1.cell? ⟨wb, 1, none⟩ = some (.slice A ds.length c) := zab h1.at_ 1 rfl
     have hop1 := HOP.out.below hb1 HOP.out.lt
     have c0 : w1.cell? ⟨w.heap.size, 0, none⟩ = some (.int .i64 kind) := zab hop1 0 rfl
     have cx : w1.cell? ⟨w.heap.size, 1, none⟩ = some (.int .i64 x) := zab hop1 1 rfl
     have H1 := zaa h1
     have HB := zaa hb
     have HOP1 := zaa hop1
     clear hb1 h h1 hb hop1)))
 have hdl := H1.out.dl
 have hlo := H1.out.lo
 by_cases hnil : ds.length = 0
 . have e0 : (ds.length : Int) = 0 := by omega
   go_wp2
   go_ret
   exact ⟨rfl, ⟨_, _, _, _, H1.out.more⟩, HB.out.mono hB⟩
 . have e0 : ¬ (ds.length : Int) = 0 := by omega
   have d1 : ((ds.length : Int) == 0) = false := by simpa using hnil
   have d2 : decide (20 < kind) = false := by simpa using k1
   have d3 : decide (kind < 10) = false := by simpa using k2
   have d4 : ((ds.length : Int) == 0 || decide (20 < kind) || decide (kind < 10)) = false := by rw [d1, d2, d3]; rfl
   go_upto_region 6 with fail
   have HP := zaa (fun k => zil x ds.length (w1.drewN k) okx (by omega) (by omega))
   have hklt := zhc x ds.length (by omega)
   have HROW : Hid (∃ g, A = some ⟨g, 0, none⟩ /\ ∀ j v, (ds.map fun d => pkv d.p)[j]? = some v -> w1.cell? ⟨g, j, none⟩ = some v) := by
    obtain ⟨ad, e, _, hc⟩ := (Reads.of_own H1.out.disks).2 (by omega)
    obtain ⟨g, o, i⟩ := ad
    obtain ⟨_, _, hv, _, _, hrow, _⟩ := zaf H1.out.disks
    injection hv with ea
    subst e
    obtain ⟨_, _, e2, _⟩ := hrow g rfl
    rw [<- ea] at e2
    injection e2 with e2
    injection e2 with _ eo ei
    subst eo ei
    exact ⟨g, rfl, fun j v hv => by have := hc j v hv; rwa [Addr.add_lit, Nat.zero_add] at this⟩
   obtain ⟨g, rfl, hcell⟩ := HROW.out
   obtain ⟨k, hk⟩ : ∃ k, k = pickN x ds.length := ⟨_, rfl⟩
   rw [<- hk] at HP hklt
   have hk1 : (k : Int) < (ds.length : Int) := by omega
   have hk0 : (0 : Int) <= (k : Int) := by omega
   have hkc : w1.cell? ⟨g, k, none⟩ = some (pkv ds[k].p) := hcell k _ (by simp [hklt])
   unfold pkv at hkc
   clear hk hcell HROW
   go_quiet (first | ((go_at_call 147; exact zcz (HP.out _))))
   have hmid := zjv ds k hklt
   obtain ⟨dd, hdd⟩ : ∃ dd, dd = ds[k] := ⟨_, rfl⟩
   rw [<- hdd] at hmid ⊢
   obtain ⟨Wq, hWq⟩ : ∃ Wq, Wq = w1.drewN nq := ⟨_, rfl⟩
   rw [<- hWq]
   have hqq : Below w1.heap.size w1 Wq := by rw [hWq]; exact zae (Below.refl _ _) nq
   have hq := H1.out.below hqq
   have hbq : Below B w Wq := (HB.out.mono hB).trans (hqq.mono (Nat.le_trans hB HB.out.size))
   have hgq : Glob Wq := HG.out.only (fp := fun x => B <= x) ⟨hbq.os, hbq.tape, hbq.output, hbq.size, fun x hx hn => hbq.block x (by omega)⟩ (by omega)
   have o0 : Wq.cell? ⟨w.heap.size, 0, none⟩ = some (.int .i64 kind) := zab (HOP1.out.below hqq HOP1.out.lt) 0 rfl
   have hmem : dd ∈ ds := by rw [hmid]; simp
   have hDI := hq.each dd hmem
   have hDN : dd.own.Nodup := by
    have := hq.nd
    rw [hmid, List.flatMap_append, List.flatMap_cons] at this
    exact (List.nodup_append.1 (List.nodup_append.1 this).2.1).1
   have hDP : ∀ y ∈ dd.own, 0 < y := fun y hy => Nat.lt_of_lt_of_le hB0 (hq.olo dd hmem y hy)
   have hqB : B <= Wq.heap.size := Nat.le_trans hB hbq.size
   have o3 : Wq.cell? ⟨w.heap.size, 3, none⟩ = some (.int .i64 a) := zab (HOP1.out.below hqq HOP1.out.lt) 3 rfl
   have hopq := HOP1.out.below hqq HOP1.out.lt
   obtain ⟨da, hda⟩ : ∃ da, da = ds.take k := ⟨_, rfl⟩
   obtain ⟨db', hdb'⟩ : ∃ db', db' = ds.drop (k + 1) := ⟨_, rfl⟩
   rw [<- hda, <- hdb'] at hmid
   subst hmid
   have hfin : ∀ w', (∃ d', DiIs w' B (N + 1) d' /\ Turned Wq w' dd d') -> VI w' B (N + 1) wb /\ Below B w w' := fun w' ⟨d', h1, h2⟩ => ⟨⟨_, _, _, _, hq.turn h1 h2 hqB⟩, hbq.trans (hq.low hmem h2 hqB)⟩
   have hsame : VI Wq B (N + 1) wb := ⟨_, _, _, _, hq.more⟩
   have HF := zaa (ztj hDI hDN hgq hB0 hN)
   have HO2 := zaa (zw6 hDI hDN hgq hB0 hN hqB)
   have HFIN := zaa hfin
   have HSAME := zaa hsame
   have HBQ := zaa hbq
   have HDI := zaa hDI
   have HDN := zaa hDN
   have HDP := zaa hDP
   have HGQ := zaa hgq
   have HQB := zaa hqB
   have HOPQ := zaa hopq
   unfold pkv at HF HO2
   clear hq hbq hmem hqq hWq hdd hgq c0 cx hkc c1 hDI hDN hDP hqB hfin hsame hda hdb' hopq
   by_cases e10 : kind = 10
   . subst e10
     go_wp2_with (go_at_call 148; refine HF.out.mono ?_; rintro e w' ⟨rfl, hd⟩)
     go_ret
     exact ⟨rfl, HFIN.out w' hd⟩
   . by_cases e11 : kind = 11
     . subst e11
       go_wp2_with (go_at_call 149; refine HO2.out.mono ?_; rintro e w' ⟨rfl, hd⟩)
       go_ret
       exact ⟨rfl, HFIN.out w' hd⟩
     . have f10 : (kind == 10) = false := by simpa using e10
       have f11 : (kind == 11) = false := by simpa using e11
       obtain ⟨sl, m, bytes, kM, kW, H⟩ := HDI.out
       cases hst : dd.st with
       | none =>
         have hx : sl.x = .pointer none := by
          have h1 := H.st
          unfold zlg at h1
          rw [hst] at h1
          exact h1
         obtain ⟨db, n, may, emp, were, wild, bit, xv, cc, commits, poi, tsv, lists, want⟩ := sl
         simp only at hx
         subst hx
         have x7 := (zbq H.dk.at_).1
         clear H
         go_wp2
         go_ret
         exact ⟨rfl, HSAME.out, HBQ.out⟩
       | some σ =>
         obtain ⟨q1, q2, q3, q4, hσ⟩ := H.sok hst
         have hlen := hσ.len
         obtain ⟨A, cap, hv, _, _, hv2⟩ := zaf hσ.row
         clear hv2
         have hrow := hσ.row
         rw [hv] at hrow
         have x7 : Wq.cell? ⟨dd.p, 7, none⟩ = some (.pointer (some ⟨σ.x, 0, none⟩)) := by
          have := q1
          unfold pkv at this
          rw [<- this]
          exact zab H.dk.at_ 7 rfl
         have x11 : Wq.cell? ⟨dd.p, 11, none⟩ = some (.slice A σ.ts.length cap) := by
          rw [<- hv, <- q4]
          exact zab H.dk.at_ 11 rfl
         have HROW := zaa hrow
         clear H hσ hrow q1 q2 q3 q4
         by_cases e12 : kind = 12
         . subst e12
           have HBT := zaa (fun wr => zvq wr HDI.out HDN.out hst HGQ.out hN HQB.out)
           unfold pkv at HBT
           by_cases ea : a = 0
           . subst ea
             go_wp2_with (go_at_call 150; refine (HBT.out _).mono ?_; rintro e w' ⟨rfl, hd⟩)
             go_ret
             exact ⟨rfl, HFIN.out w' hd⟩
           . have fa : (a == 0) = false := by simpa using ea
             go_wp2_with (go_at_call 150; refine (HBT.out _).mono ?_; rintro e w' ⟨rfl, hd⟩)
             go_ret
             exact ⟨rfl, HFIN.out w' hd⟩
         . have f12 : (kind == 12) = false := by simpa using e12
           by_cases hnil2 : σ.ts.length = 0
           . have n1 : (σ.ts.length : Int) = 0 := by omega
             go_wp2
             go_ret
             exact ⟨rfl, HSAME.out, HBQ.out⟩
           . have n1 : ¬ (σ.ts.length : Int) = 0 := by omega
             have n2 : ((σ.ts.length : Int) == 0) = false := by simpa using n1
             have oy : Wq.cell? ⟨w.heap.size, 2, none⟩ = some (.int .i64 y) := zab HOPQ.out 2 rfl
             have HP2 := zaa (fun q => zil y σ.ts.length (Wq.drewN q) oky (by omega) (by omega))
             have hjl := zhc y σ.ts.length (by omega)
             obtain ⟨j, hj⟩ : ∃ j, j = pickN y σ.ts.length := ⟨_, rfl⟩
             rw [<- hj] at HP2 hjl
             obtain ⟨τ, hτ⟩ : ∃ τ, τ = σ.ts[j] := ⟨_, rfl⟩
             obtain ⟨g2, hA2, hgc⟩ := zg5 HROW.out j (pkv τ.l) (by rw [hτ]; simp [hjl])
             subst hA2
             unfold pkv at hgc
             have hmid2 := zjv σ.ts j hjl
             rw [<- hτ] at hmid2
             have j0 : (0 : Int) <= (j : Int) := by omega
             have j1 : (j : Int) < (σ.ts.length : Int) := by omega
             have HON := zaa (fun W (hb : Below Wq.heap.size Wq W) => zt5 ⟨kind, x, y, a, b, s, t⟩ HOK.out (by have := HK.out; show kind = 13 \/ kind = 14 \/ kind = 15 \/ kind = 18 \/ kind = 19 \/ kind = 20 \/ kind = 16; omega) HSC.out (HDI.out.below hb) HDN.out HDP.out hst hmid2 (HGQ.out.only (fp := fun _ => False) (Only.of_below hb) id) hN (Nat.le_trans HQB.out hb.size))
             unfold pkv OpS.cells at HON
             clear hj hτ hmid2
             go_upto_region 18 with fail
             go_quiet (first | ((go_at_call 147; exact zcz (HP2.out _))))
             obtain ⟨Wr, hWr⟩ : ∃ Wr, Wr = Wq.drewN nq := ⟨_, rfl⟩
             rw [<- hWr]
             have hbr : Below Wq.heap.size Wq Wr := by rw [hWr]; exact zae (Below.refl _ _) _
             have hopr := HOPQ.out.below hbr HOPQ.out.lt
             have r0 : Wr.cell? ⟨w.heap.size, 0, none⟩ = some (.int .i64 kind) := zab hopr 0 rfl
             have r1 : Wr.cell? ⟨w.heap.size, 1, none⟩ = some (.int .i64 x) := zab hopr 1 rfl
             have r2 : Wr.cell? ⟨w.heap.size, 2, none⟩ = some (.int .i64 y) := zab hopr 2 rfl
             have r3 : Wr.cell? ⟨w.heap.size, 3, none⟩ = some (.int .i64 a) := zab hopr 3 rfl
             have r4 : Wr.cell? ⟨w.heap.size, 4, none⟩ = some (.int .i64 b) := zab hopr 4 rfl
             have r5 : Wr.cell? ⟨w.heap.size, 5, none⟩ = some (.string s) := zab hopr 5 rfl
             have r6 : Wr.cell? ⟨w.heap.size, 6, none⟩ = some (.string t) := zab hopr 6 rfl
             have HON2 := zaa (HON.out Wr hbr)
             have HBR := zaa hbr
             clear hbr hopr hWr x7 x11 oy o3 o0 hgc
             go_wp2_with (first
              | (go_at_call 151; go_loud (
                 refine HON2.out.mono ?_; rintro e w2 ⟨rfl, hd⟩
                 obtain ⟨d', hd1, hd2⟩ := (TurnPost.pre (e := .returned (.bool true)) HBR.out ⟨rfl, hd⟩).2
                 have HPF := zaa (HFIN.out w2 ⟨d', hd1, hd2⟩)
                 obtain ⟨s2, m2, by2, kM2, kW2, H2⟩ := hd1
                 have hlk := zt3 H2.dk.at_ (ls := d'.ls) (B := B) (N := N + 1) (by rw [H2.lists, H2.want]; exact H2.ls) (by omega)
                 have hpp : d'.p = dd.p := hd2.p
                 simp only at hlk
                 rw [hpp] at hlk
                 unfold pkv at hlk
                 have HLK := zaa hlk
                 clear hd hd2 H2 hlk r0 r1 r2 r3 r4 r5 r6))
              | (go_at_call 152; refine HLK.out.mono ?_; rintro e w3 ⟨rfl, hb3⟩))
             go_ret
             obtain ⟨⟨kv', dv', xs', ds', hV⟩, hBel⟩ := HPF.out
             exact ⟨rfl, ⟨kv', dv', xs', ds', hV.below hb3⟩, hBel.trans (hb3.mono (Nat.le_trans hB hBel.size))⟩
end
theorem zt7 : zm7 VI := fun w =>
 ⟨.slice none 0 0, .slice none 0 0, [], [], ⟨Blk.new _ _ _, World.ownsRow_nil _ _ _ _, World.ownsRow_nil _ _ _ _, (fun d hd => by cases hd), List.nodup_nil, (fun d hd => by cases hd), Nat.zero_le _, Nat.zero_le _, Nat.le_refl _⟩⟩
def zqg (o : OpS) : Prop := o.kind < 4 \/ o.kind ∈ ([10, 11, 12, 13, 14, 15, 18, 19, 20] : List Int)
theorem zpk : zk6 VI zqg := by
 intro B N wb w o hw hg h0 hB hN hok hk
 have hk' : o.kind <= 0 \/ (o.kind = 1 \/ o.kind = 2 \/ o.kind = 3) \/ (o.kind = 10 \/ o.kind = 11 \/ o.kind = 12 \/ o.kind = 13 \/ o.kind = 14 \/ o.kind = 15 \/ o.kind = 18 \/ o.kind = 19 \/ o.kind = 20) := by
  rcases hk with hk | hk
  . omega
  . simp only [List.mem_cons, List.not_mem_nil, or_false] at hk; omega
 rcases hk' with hk | hk | hk
 . exact zvm hw hB hk
 . exact zvl hw hB hN hk
 . exact zt6 hw hg h0 hB hN hok (by omega) (fun h => by omega)
theorem zt8 (A : Option Addr) (n c : Nat) (os : List OpS) (w : World) (h : ScAt w w.heap.size A n c os) (hg : Glob w) (hok : ∀ o ∈ os, o.ok) :
   Calls Tryz.prog 14 #[.slice A n c] w (zsn w) := by
 have hb0 : Below w.heap.size w (w.alloc (.cells #[.int .i64 10, .int .i64 11, .int .i64 12, .int .i64 13, .int .i64 14, .int .i64 15, .int .i64 18, .int .i64 19, .int .i64 20] 3)) := (Below.refl _ _).alloc (Nat.le_refl _) _
 have h' : ScAt (w.alloc (.cells #[.int .i64 10, .int .i64 11, .int .i64 12, .int .i64 13, .int .i64 14, .int .i64 15, .int .i64 18, .int .i64 19, .int .i64 20] 3)) (w.alloc (.cells #[.int .i64 10, .int .i64 11, .int .i64 12, .int .i64 13, .int .i64 14, .int .i64 15, .int .i64 18, .int .i64 19, .int .i64 20] 3)).heap.size A n c os := by
  obtain ⟨h1, h2, h3, h4⟩ := h.below hb0
  refine ⟨h1, h2, h3, fun h0 => ?_⟩
  obtain ⟨b, o, hA, hb, hc⟩ := h4 h0
  exact ⟨b, o, hA, by have := hb0.size; omega, hc⟩
 have HP := zaa (zso (okK := zqg) zpk zt7 A n c os w.heap.size [10, 11, 12, 13, 14, 15, 18, 19, 20] _ h' (hg.alloc _) hok (Blk.new w 3 #[.int .i64 10, .int .i64 11, .int .i64 12, .int .i64 13, .int .i64 14, .int .i64 15, .int .i64 18, .int .i64 19, .int .i64 20]) (by decide) (fun o ho => ho))
 have HB0 := zaa hb0
 clear h h' hg hok hb0
 go_enter Tryz.func14, Tryz.ntmps14
 go_wp2_with (go_at_call 48; refine HP.out.mono ?_; rintro e w' ⟨rfl, hb⟩)
 go_ret
 exact ⟨rfl, HB0.out.trans (hb.mono HB0.out.size)⟩
end Go.Proofs.YtemondlgcmpbbaaGreatDoor
