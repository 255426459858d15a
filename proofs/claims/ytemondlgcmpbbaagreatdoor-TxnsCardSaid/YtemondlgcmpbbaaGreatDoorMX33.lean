/- Walks: a step on a transaction of the script. -/
import Derived.Test.YtemondlgcmpbbaaGreatDoorMX31
import Derived.Test.YtemondlgcmpbbaaGreatDoorMX32
import Derived.Deep.DeepCutAuto
namespace Go.Proofs.YtemondlgcmpbbaaGreatDoor
open Go.RowKit
set_option maxRecDepth 100000
theorem TurnPost.pre {w W w' : World} {B N : Nat} {d : DiI} {e : Ending} (hb : Below w.heap.size w W) (h : TurnPost B N d W e w') : TurnPost B N d w e w' := by
 obtain ⟨he, d', h1, ⟨p, o, n, ho⟩⟩ := h
 exact ⟨he, d', h1, ⟨p, fun y hy => (o y hy).imp id fun k => Nat.le_trans hb.size k, n, (Only.of_below hb).trans ho⟩⟩
theorem zit {α : Type} (l : List α) (k : Nat) (h : k < l.length) : l = l.take k ++ l[k] :: l.drop (k + 1) := by
 rw [<- List.drop_eq_getElem_cons h, List.take_append_drop]
def zmt : Prop := ∀ (w : World) (B N : Nat) (d : DiI) (σ : StI) (τ : TxI) (a b : List TxI) (lo hi : Str) (most : Int), DiIs w B N d -> d.own.Nodup -> (∀ y ∈ d.own, 0 < y) -> d.st = some σ -> σ.ts = a ++ τ :: b -> Glob w -> N <= 16384 -> B <= w.heap.size -> I64 most -> lo.size <= 9223372036854775807 -> hi.size <= 9223372036854775807 ->
 Calls Tryz.prog 186 #[pkv d.p, pkv τ.l, .string lo, .string hi, .int .i64 most] w (TurnPost B N d w)
def zrh : Prop := ∀ (w : World) (B N : Nat) (d : DiI) (σ : StI) (τ : TxI) (u : CuI) (a b : List TxI) (ca cb : List CuI) (how : Int) (k : Str), DiIs w B N d -> d.own.Nodup -> d.st = some σ -> σ.ts = a ++ τ :: b -> τ.cs = ca ++ u :: cb -> Glob w -> k.size <= 9223372036854775807 -> (how = 0 \/ how = 1 \/ how = 2 \/ how = 3 \/ how = 4) ->
 Calls Tryz.prog 189 #[pkv d.p, pkv τ.l, pkv u.q, .int .i64 how, .string k] w (TurnPost B N d w)
section
variable {w : World} {B N : Nat} {d : DiI} {σ : StI} {τ : TxI} {a b : List TxI}
set_option maxHeartbeats 4000000 in
theorem zri (o : OpS) (hok : o.ok) (hk : o.kind = 13 \/ o.kind = 14 \/ o.kind = 15 \/ o.kind = 18 \/ o.kind = 19 \/ o.kind = 20 \/ o.kind = 16) (hsc : o.kind = 16 -> zmt) (hmv : o.kind = 20 -> zrh) (h : DiIs w B N d) (hn : d.own.Nodup) (hpos : ∀ y ∈ d.own, 0 < y) (hst : d.st = some σ) (hts : σ.ts = a ++ τ :: b) (hg : Glob w) (hN : N <= 16384) (hwB : B <= w.heap.size) :
   Calls Tryz.prog 151 #[pkv d.p, pkv τ.l, .agg o.cells] w (TurnPost B N d w) := by
 obtain ⟨kind, x, y, aa, bb, s, t⟩ := o
 have ok1 : s.size <= 9223372036854775807 := hok.s
 have ok2 : t.size <= 9223372036854775807 := hok.t
 have oka : I64 aa := hok.a
 have okb : I64 bb := hok.b
 simp only at hk hsc hmv
 have hgW : ∀ W, Below w.heap.size w W -> Glob W := fun W hb => hg.only (fp := fun _ => False) (Only.of_below hb) id
 have hb0 : Below w.heap.size w (w.alloc (.cells #[.int .i64 kind, .int .i64 x, .int .i64 y, .int .i64 aa, .int .i64 bb, .string s, .string t] 124)) := (Below.refl _ _).alloc (Nat.le_refl _) _
 have HB0 := zaa hb0
 have HD := zaa h
 have HG := zaa hgW
 have HSC := zaa hsc
 have HMK := zaa hmv
 have HN := zaa hn
 have HPOS := zaa hpos
 clear hg hok hgW hsc hmv hn hpos
 unfold OpS.cells
 rcases hk with rfl | rfl | rfl | rfl | rfl | rfl | rfl
 . have HX := zaa (zku false s t (h.below hb0) HN.out HPOS.out hst hts (HG.out _ hb0) hN ok1 ok2)
   clear hb0 h
   unfold pkv at HX ⊢
   go_enter Tryz.func151, Tryz.ntmps151
   go_wp2_with (go_at_call 184; refine HX.out.mono ?_; rintro e w' ⟨rfl, hd⟩)
   go_ret
   exact TurnPost.pre HB0.out ⟨rfl, hd⟩
 . have HX := zaa (zku true s t (h.below hb0) HN.out HPOS.out hst hts (HG.out _ hb0) hN ok1 ok2)
   clear hb0 h
   unfold pkv at HX ⊢
   go_enter Tryz.func151, Tryz.ntmps151
   go_wp2_with (go_at_call 184; refine HX.out.mono ?_; rintro e w' ⟨rfl, hd⟩)
   go_ret
   exact TurnPost.pre HB0.out ⟨rfl, hd⟩
 . have HX := zaa (zve s (h.below hb0) HN.out HPOS.out hst hts (HG.out _ hb0) ok1)
   clear hb0 h
   unfold pkv at HX ⊢
   go_enter Tryz.func151, Tryz.ntmps151
   go_wp2_with (go_at_call 185; refine HX.out.mono ?_; rintro e w' ⟨rfl, hd⟩)
   go_ret
   exact TurnPost.pre HB0.out ⟨rfl, hd⟩
 . have HX := zaa (ztc (h.below hb0) HN.out hst hts (HG.out _ hb0))
   clear hb0 h
   unfold pkv at HX ⊢
   go_enter Tryz.func151, Tryz.ntmps151
   go_wp2_with (go_at_call 187; refine HX.out.mono ?_; rintro e w' ⟨rfl, hd⟩)
   go_ret
   exact TurnPost.pre HB0.out ⟨rfl, hd⟩
 . have HX := zaa (zrf (h.below hb0) HN.out hst hts (HG.out _ hb0) hN (Nat.le_trans hwB hb0.size))
   clear hb0 h
   unfold pkv at HX ⊢
   go_enter Tryz.func151, Tryz.ntmps151
   go_wp2_with (go_at_call 188; refine HX.out.mono ?_; rintro e w' ⟨rfl, hd⟩)
   go_ret
   exact TurnPost.pre HB0.out ⟨rfl, hd⟩
 . obtain ⟨sl, m, bytes, kM, kW, H⟩ := h
   obtain ⟨hτ, _⟩ := H.around HN.out hst hts
   obtain ⟨W0, hW0⟩ : ∃ W0, W0 = w.alloc (.cells #[.int .i64 20, .int .i64 x, .int .i64 y, .int .i64 aa, .int .i64 bb, .string s, .string t] 124) := ⟨_, rfl⟩
   have hb0' : Below w.heap.size w W0 := by rw [hW0]; exact hb0
   have hop : Blk W0 w.heap.size 124 #[.int .i64 20, .int .i64 x, .int .i64 y, .int .i64 aa, .int .i64 bb, .string s, .string t] := by rw [hW0]; exact Blk.new _ _ _
   have hlaw := Blk.below hτ.law hb0' (Blk.lt hτ.law)
   have hcrow := zap hτ.crow hb0'
   obtain ⟨A, cap, hv, _, _, hv2⟩ := zad hτ.crow
   clear hv2
   rw [hv] at hcrow
   have hcn := hτ.cn
   have c8 : W0.cell? ⟨τ.l, 8, none⟩ = some (.slice A τ.cs.length cap) := by rw [<- hv]; exact zab hlaw 8 rfl
   have q8 : w.cell? ⟨τ.l, 8, none⟩ = some (.slice A τ.cs.length cap) := by rw [<- hv]; exact zab hτ.law 8 rfl
   have q8' := fun o => zaj o q8
   have o3 : W0.cell? ⟨w.heap.size, 3, none⟩ = some (.int .i64 aa) := zab hop 3 rfl
   have HW0 := zaa hW0
   have HCROW := zaa hcrow
   have HOP := zaa hop
   have HB0' := zaa hb0'
   clear hb0 hb0' hop hlaw hcrow hW0 hτ
   unfold pkv
   by_cases hnil : τ.cs.length = 0
   . have n1 : (τ.cs.length : Int) = 0 := by omega
     go_enter Tryz.func151, Tryz.ntmps151
     go_wp2
     all_goals (go_ret; exact TurnPost.same HD.out HN.out HB0.out rfl)
   . have n1 : ¬ (τ.cs.length : Int) = 0 := by omega
     have n2 : ((τ.cs.length : Int) == 0) = false := by simpa using n1
     have HP := zaa (fun k => zhq aa τ.cs.length (W0.drewN k) oka (by omega) (by omega))
     have hjl := zgg aa τ.cs.length (by omega)
     obtain ⟨j, hj⟩ : ∃ j, j = pickN aa τ.cs.length := ⟨_, rfl⟩
     rw [<- hj] at HP hjl
     obtain ⟨u, hu⟩ : ∃ u, u = τ.cs[j] := ⟨_, rfl⟩
     obtain ⟨g, hA, hgc⟩ := zga HCROW.out j (pkv u.q) (by rw [hu]; simp [hjl])
     subst hA
     unfold pkv at hgc
     have hmid := zit τ.cs j hjl
     rw [<- hu] at hmid
     have j0 : (0 : Int) <= (j : Int) := by omega
     have j1 : (j : Int) < (τ.cs.length : Int) := by omega
     have hfive := zgg bb 5 (by omega)
     have HP5 := zaa (fun W => (show Calls Tryz.prog 147 #[.int .i64 bb, .int .i64 5] W fun e w' => e = .returned (.int .i64 (pickN bb 5 : Nat)) /\ W = w' from zhq bb 5 W okb (by omega) (by omega)))
     obtain ⟨hw, hhw⟩ : ∃ hw, hw = pickN bb 5 := ⟨_, rfl⟩
     rw [<- hhw] at HP5 hfive
     have HMV := zaa (fun W (hb : Below w.heap.size w W) => HMK.out rfl W B N d σ τ u a b _ _ (hw : Int) s (HD.out.below hb) HN.out hst hts hmid (HG.out W hb) ok1 (by omega))
     unfold pkv at HMV
     clear hj hu hmid hhw H
     go_enter Tryz.func151, Tryz.ntmps151
     go_upto_region 19 with fail
     rw [<- HW0.out]
     clear q8 q8'
     go_quiet (first | ((go_at_call 147; exact zcm (HP.out _))))
     obtain ⟨Wq, hWq⟩ : ∃ Wq, Wq = W0.drewN nq := ⟨_, rfl⟩
     rw [<- hWq]
     have hbq : Below W0.heap.size W0 Wq := by rw [hWq]; exact zam (Below.refl _ _) nq
     have hopq := HOP.out.below hbq HOP.out.lt
     have p4 : Wq.cell? ⟨w.heap.size, 4, none⟩ = some (.int .i64 bb) := zab hopq 4 rfl
     have p5 : Wq.cell? ⟨w.heap.size, 5, none⟩ = some (.string s) := zab hopq 5 rfl
     have HBW := zaa (Below.drew (HB0'.out.trans (hbq.mono HB0'.out.size)))
     have HLQ := zaa (show w.heap.size < Wq.heap.size from hopq.lt)
     have HKC := zaa (fun (W' : World) (i : Nat) (Wx : World) (hd : ∃ d', DiIs W' B (N + 1) d' /\ Turned Wx W' d d') (hlt : w.heap.size < Wx.heap.size) => (show W'.cell? ⟨w.heap.size, i, none⟩ = Wx.cell? ⟨w.heap.size, i, none⟩ from by
      obtain ⟨d', _, h2⟩ := hd
      exact h2.only.cell (p := ⟨w.heap.size, i, none⟩) hlt (fun e => Nat.lt_irrefl _ (HD.out.own _ e).lt)))
     clear hbq hopq hWq c8 o3 hgc
     go_upto_region 20 with fail
     go_region_held3 (fun w' => w'.cell? ⟨w.heap.size, 4, none⟩ = some (.int .i64 bb) /\ w'.cell? ⟨w.heap.size, 5, none⟩ = some (.string s)) (first | go_keep | exact ⟨p4, p5⟩ | exact ⟨k4, k5⟩) (first
      | (go_at_call 147; ((with_reducible refine (HP5.out _).mono ?_); rintro e w' ⟨rfl, rfl⟩))
      | (go_at_call 189; ((with_reducible refine (HMV.out _ HBW.out).mono ?_); rintro e w' ⟨rfl, hd⟩; have k4 : w'.cell? ⟨w.heap.size, 4, none⟩ = some (.int .i64 bb) := (HKC.out _ _ _ hd HLQ.out).trans p4; have k5 : w'.cell? ⟨w.heap.size, 5, none⟩ = some (.string s) := (HKC.out _ _ _ hd HLQ.out).trans p5)))
     go_wp2
     go_ret
     exact TurnPost.pre HBW.out ⟨rfl, hd⟩
 . have HX := zaa (HSC.out rfl _ B N d σ τ a b s t aa (h.below hb0) HN.out HPOS.out hst hts (HG.out _ hb0) hN (Nat.le_trans hwB hb0.size) oka ok1 ok2)
   clear hb0 h
   unfold pkv at HX ⊢
   go_enter Tryz.func151, Tryz.ntmps151
   go_wp2_with (go_at_call 186; refine HX.out.mono ?_; rintro e w' ⟨rfl, hd⟩)
   go_ret
   exact TurnPost.pre HB0.out ⟨rfl, hd⟩
end
end Go.Proofs.YtemondlgcmpbbaaGreatDoor
