/- Xb Xe Xk: merged. -/
import Derived.Test.YtemondlgcmpbbaaGreatDoorMX35
import Derived.Test.YtemondlgcmpbbaaGreatDoorMX22
import Derived.Maps.OwnIn
import Derived.Test.YtemondlgcmpbbaaGreatDoorMX23
import Derived.Deep.QuietTactic
import Derived.Test.YtemondlgcmpbbaaGreatDoorMX34
namespace Go.Proofs.YtemondlgcmpbbaaGreatDoor
open Go.RowKit Go.Shelf
set_option maxRecDepth 100000
attribute [local go_sem] Oper.semAt_some
set_option maxHeartbeats 2000000 in
theorem zti (t x : Nat) (τ : TxS) (s : DbS) (T : Tree) (ds : List Nat) (lo hi : ByteArray) (most : Nat) (hm : 1 <= most) (w : World) (hT : TxAt w t τ) (hD : DbAt w x s) (hx : τ.db = x) (hk : τ.keys = T.keys) (hok : mayC s.poi τ.done false τ.write = 0)
   (hV : TreeV (fun z => z < w.heap.size) w T τ.root ds) (hR : TR T) (hp : T.pairs.length <= 150) :
   Calls Tryz.prog 64 #[.pointer (some ⟨t, 0, none⟩), .string lo, .string hi, .int .i64 most] w fun e w' => ∃ v, e = .returned (.tuple #[v, .nilIface]) /\ w'.ownsRow w.heap.size 68 2 v ((zcy T lo hi).take most).length (zaf ((zcy T lo hi).take most)) /\ Below w.heap.size w w' := by
 have hml : ¬ (most : Int) < 1 := by omega
 obtain ⟨L, hL⟩ : ∃ L, L = (zcy T lo hi).take most := ⟨_, rfl⟩
 rw [<- hL]
 refine (callsIn_wide (n := 3)).1 ?_
 refine callsIn_of_wp_marks Tryz.func64 rfl trivial ?_ rfl
 simp only [Tryz.ntmps64, List.size_toArray, List.length_cons, List.length_nil, Nat.reduceAdd, Nat.reduceSub, Array.replicate_succ, Array.replicate_zero, List.push_toArray, List.append_toArray, List.nil_append, List.cons_append]
 gi_wp2_with (refine ⟨trivial, ?_⟩; gi_at_call 102; refine (callsIn_wide.2 (zf5 t lo hi _)).mono ?_; rintro e w' ⟨rfl, rfl⟩)
 obtain ⟨W0, hW0⟩ : ∃ W0, W0 = ((((((w.alloc (.cells #[.int .i64 most] 3)).alloc (.cells #[.slice none 0 0] 39)).alloc (.cells #[.nilIface] 31)).alloc (.cells #[.slice none 0 0] 39)).alloc (.cells #[.pointer (some ⟨t, 0, none⟩)] 29)).alloc (.cells #[.string lo] 9)).alloc (.cells #[.string hi] 9) := ⟨_, rfl⟩
 have hz : W0.heap.size = w.heap.size + 7 := by rw [hW0]; simp only [World.size_alloc]
 have hbel : Below w.heap.size w W0 := by
  rw [hW0]
  exact ((((((((Below.refl w.heap.size w).alloc (by simp) _).alloc (by simp) _).alloc (by simp; omega) _).alloc (by simp; omega) _).alloc (by simp; omega) _).alloc (by simp; omega) _).alloc (by simp; omega) _)
 have hR0 : Blk W0 w.heap.size 3 #[.int .i64 most] := by
  rw [hW0]
  exact ((((((Blk.new w _ _).alloc _).alloc _).alloc _).alloc _).alloc _).alloc _
 have hR1 : Blk W0 (w.heap.size + 1) 39 #[.slice none 0 0] := by
  rw [hW0]
  exact (((((Blk.new2 w _ _ _).alloc _).alloc _).alloc _).alloc _).alloc _
 have hR2 : Blk W0 (w.heap.size + 1 + 1) 31 #[.nilIface] := by
  rw [hW0]
  have := Blk.new2 (w.alloc (.cells #[.int .i64 most] 3)) (.cells #[.slice none 0 0] 39) 31 #[.nilIface]
  rw [World.size_alloc] at this
  exact (((this.alloc _).alloc _).alloc _).alloc _
 have hR3 : Blk W0 (w.heap.size + 1 + 1 + 1) 39 #[.slice none 0 0] := by
  rw [hW0]
  have := Blk.new (((w.alloc (.cells #[.int .i64 most] 3)).alloc (.cells #[.slice none 0 0] 39)).alloc (.cells #[.nilIface] 31)) 39 #[.slice none 0 0]
  simp only [World.size_alloc] at this
  exact ((this.alloc _).alloc _).alloc _
 have hB0 : Blk W0 (w.heap.size + 1 + 1 + 1 + 1) 29 #[.pointer (some ⟨t, 0, none⟩)] := by
  rw [hW0]
  have := Blk.new ((((w.alloc (.cells #[.int .i64 most] 3)).alloc (.cells #[.slice none 0 0] 39)).alloc (.cells #[.nilIface] 31)).alloc (.cells #[.slice none 0 0] 39)) 29 #[.pointer (some ⟨t, 0, none⟩)]
  simp only [World.size_alloc] at this
  exact (this.alloc _).alloc _
 have hB1 : Blk W0 (w.heap.size + 1 + 1 + 1 + 1 + 1) 9 #[.string lo] := by
  rw [hW0]
  have := Blk.new (((((w.alloc (.cells #[.int .i64 most] 3)).alloc (.cells #[.slice none 0 0] 39)).alloc (.cells #[.nilIface] 31)).alloc (.cells #[.slice none 0 0] 39)).alloc (.cells #[.pointer (some ⟨t, 0, none⟩)] 29)) 9 #[.string lo]
  simp only [World.size_alloc] at this
  exact this.alloc _
 have hB2 : Blk W0 (w.heap.size + 1 + 1 + 1 + 1 + 1 + 1) 9 #[.string hi] := by
  rw [hW0]
  have := Blk.new ((((((w.alloc (.cells #[.int .i64 most] 3)).alloc (.cells #[.slice none 0 0] 39)).alloc (.cells #[.nilIface] 31)).alloc (.cells #[.slice none 0 0] 39)).alloc (.cells #[.pointer (some ⟨t, 0, none⟩)] 29)).alloc (.cells #[.string lo] 9)) 9 #[.string hi]
  simp only [World.size_alloc] at this
  exact this
 have hT0 := hT.below hbel hT.lt
 have hD0 := hD.below hbel hD.lt
 have hV0 : TreeV (fun z => z < W0.heap.size) W0 T τ.root ds := hV.below hbel fun z hz' => by omega
 rw [<- hW0]
 refine wpIn_rangeFunc_ownH (α := Str × Str) rfl (by omega) (gf := 140) (lb := #[.pointer (some ⟨w.heap.size + 1 + 1 + 1 + 1, 0, none⟩), .pointer (some ⟨w.heap.size + 1 + 1 + 1 + 1 + 1, 0, none⟩), .pointer (some ⟨w.heap.size + 1 + 1 + 1 + 1 + 1 + 1, 0, none⟩)]) rfl trivial (enters_of Tryz.func140 (by kernel_rfl) rfl)
  (encs := zmj) (Kp := KpY w.heap.size) (S := fun xs => xs = zcy T lo hi) (Sp := fun xs => xs <+: zcy T lo hi) (N := 200) (w0 := W0) ?hseq (fun h k => h.trans k) (fun W l o o' => KpY.put hbel.size W l o o') (Below.refl _ _) (fun _ => rfl)
  (fun pre W => pre.length <= most /\ (∃ v, Blk W (w.heap.size + 1 + 1 + 1) 39 #[v] /\ W.ownsRow W0.heap.size 68 2 v pre.length (zaf pre)) /\ Blk W w.heap.size 3 #[.int .i64 most] /\ Blk W (w.heap.size + 1) 39 #[.slice none 0 0] /\ Blk W (w.heap.size + 1 + 1) 31 #[.nilIface] /\ Below w.heap.size w W /\ W0.heap.size <= W.heap.size)
  (fun c pre W => c = .exit 0 /\ ∃ p y, pre = p ++ [y] /\ p.length = most /\ (∃ v, Blk W (w.heap.size + 1 + 1 + 1) 39 #[v] /\ W.ownsRow W0.heap.size 68 2 v p.length (zaf p)) /\ Blk W w.heap.size 3 #[.int .i64 most] /\ Blk W (w.heap.size + 1) 39 #[.slice none 0 0] /\ Blk W (w.heap.size + 1 + 1) 31 #[.nilIface] /\ Below w.heap.size w W /\ W0.heap.size <= W.heap.size) ?hI ?hIx ⟨Nat.zero_le _, ⟨_, hR3, World.ownsRow_nil _ _ _ _⟩, hR0, hR1, hR2, hbel, Nat.le_refl _⟩
  (fun y a' W => ∃ Bx, W0.heap.size <= Bx /\ Blk W Bx 68 #[.string y.1, .string y.2] /\ a' = { tmps := #[.pointer (some ⟨t, 0, none⟩), .string lo, .string hi, .int .i64 most, undef, undef, undef, .pointer (some ⟨w.heap.size, 0, none⟩), .pointer (some ⟨w.heap.size + 1, 0, none⟩), .pointer (some ⟨w.heap.size + 1 + 1, 0, none⟩), .pointer (some ⟨w.heap.size + 1 + 1 + 1, 0, none⟩), .pointer (some ⟨Bx, 0, none⟩), .nilIface, .int .i64 most, .bool false, .pointer (some ⟨t, 0, none⟩), .string lo, .string hi, .func (.func 140) #[] #[.pointer (some ⟨w.heap.size + 1 + 1 + 1 + 1, 0, none⟩), .pointer (some ⟨w.heap.size + 1 + 1 + 1 + 1 + 1, 0, none⟩), .pointer (some ⟨w.heap.size + 1 + 1 + 1 + 1 + 1 + 1, 0, none⟩)], .agg #[.string y.1, .string y.2], .nilIface, undef, undef, undef, undef, undef, undef, undef, undef, undef, undef, undef, undef], defers := [] })
  ?hAx ?hassign ?hbody ?done ?stop
 case hseq =>
  intro l J Jx W hW hJ hJx hY h0
  exact callsIn_wide.2 (zol t x _ _ _ l τ s T ds w.heap.size lo hi J Jx W (hT0.below hW hT0.lt) (hD0.below hW hD0.lt) hx hk hok (hV.below (hbel.trans (hW.mono hbel.size)) fun _ h => h) hR hp (hB0.below hW hB0.lt) (hB1.below hW hB1.lt) (hB2.below hW hB2.lt) (Nat.le_trans hbel.size hW.size) hJ hJx h0 (fun pre y W1 hj hl => YieldAt.any rfl 2 (hY pre y W1 hj hl)))
 case hI =>
  rintro pre W W' row ⟨hpl, ⟨v, hv, hrow⟩, h1, h2, h3, hB, hsz⟩ hg hr
  have hr' := fun r e => (hr r e).2
  exact ⟨hpl, ⟨v, zaq hv hg hr', zbg hrow hg hr'⟩, zaq h1 hg hr', zaq h2 hg hr', zaq h3 hg hr', hB.grown hg hB.size fun k e => (by have := (hr k e).1; omega), Nat.le_trans hsz hg.size⟩
 case hIx =>
  rintro c pre W W' row ⟨hc, p, y, hpy, hpl, ⟨v, hv, hrow⟩, h1, h2, h3, hB, hsz⟩ hg hr
  have hr' := fun r e => (hr r e).2
  exact ⟨hc, p, y, hpy, hpl, ⟨v, zaq hv hg hr', zbg hrow hg hr'⟩, zaq h1 hg hr', zaq h2 hg hr', zaq h3 hg hr', hB.grown hg hB.size fun k e => (by have := (hr k e).1; omega), Nat.le_trans hsz hg.size⟩
 case hAx =>
  rintro y a' u W W' row ⟨Bx, h1, h2, h3⟩ hg hr
  exact ⟨Bx, h1, zaq h2 hg (fun r e => (hr r e).2), h3⟩
 case hassign =>
  rintro l pre y W K ⟨hpl, ⟨v, hv, hrow⟩, h1, h2, h3, hB, hsz⟩ hK
  have hA := (Below.refl W.heap.size W).alloc (Nat.le_refl _) (.cells #[.string y.1, .string y.2] 68)
  have hKp : KpY w.heap.size W (W.alloc (.cells #[.string y.1, .string y.2] 68)) := ⟨hA.mono hB.size, fun z T cs _ hz => hz.alloc _⟩
  have hI' : (∃ v, Blk (W.alloc (.cells #[.string y.1, .string y.2] 68)) (w.heap.size + 1 + 1 + 1) 39 #[v] /\ (W.alloc (.cells #[.string y.1, .string y.2] 68)).ownsRow W0.heap.size 68 2 v pre.length (zaf pre)) := ⟨v, hv.alloc _, zbg (row := none) hrow (Below.grown hA) (fun r e => by cases e)⟩
  have hX := Blk.new W 68 #[.string y.1, .string y.2]
  unfold zmj
  gi_wp2
  exact hK _ _ ((KeepsOthers.alloc _ _).from _) hKp ⟨hpl, hI', h1.alloc _, h2.alloc _, h3.alloc _, hB.trans (hA.mono hB.size), Nat.le_trans hsz hA.size⟩ ⟨_, hsz, hX, rfl⟩
 case hbody =>
  rintro l pre y a' W hl ⟨r, hr⟩ ⟨hpl, ⟨v, hv, hrow⟩, h1, h2, h3, hB, hsz⟩ ⟨Bx, hBx, bX, rfl⟩ hlt
  obtain ⟨A, c, rfl, _⟩ := zad hrow
  have c10 := zab hv 0 rfl
  have f10 := hv.frozen 0
  have c7 := zab h1 0 rfl
  have x0 := zab bX 0 rfl
  have x1 := zab bX 1 rfl
  by_cases hbk : pre.length = most
  . have hq : (pre.length : Int) = (most : Int) := by omega
    have hq2 : ((pre.length : Int) == (most : Int)) = true := by simpa using hq
    have HRow := zaa hrow
    have HV3 := zaa hv
    clear hr hrow hv
    gi_wp2
    exact ⟨(KeepsOthers.refl _).from _, rfl, pre, y, rfl, hbk, ⟨_, HV3.out, HRow.out⟩, h1, h2, h3, hB, hsz⟩
  have hne : ¬ (pre.length : Int) = (most : Int) := by omega
  have hne' : ((pre.length : Int) == (most : Int)) = false := by simpa using hne
  have HRow := zaa hrow
  have HV3 := zaa hv
  have hA := (Below.refl W.heap.size W).alloc (Nat.le_refl _) (.cells #[.string y.1, .string y.2] 68)
  have hrowA : (W.alloc (.cells #[.string y.1, .string y.2] 68)).drew.ownsRow W0.heap.size 68 2 (.slice A pre.length c) pre.length (zaf pre) := zbg (row := none) hrow (Below.grown hA.drew) (fun r e => by cases e)
  have hX := (Blk.new W 68 #[.string y.1, .string y.2]).drew
  obtain ⟨i0, hi0, hz0, hz1, hz2⟩ := info_parts zdc
  have HI0 := zaa hi0
  have HZ0 := zaa hz0
  have HZ1 := zaa hz1
  have HZ2 := zaa hz2
  have HRA := zaa hrowA
  have HX := zaa hX
  have HA := zaa hA
  have hcell : ∀ j u, [Value.string y.1, .string y.2][j]? = some u -> (W.alloc (.cells #[.string y.1, .string y.2] 68)).drew.cell? (Addr.add ⟨W.heap.size, 0, none⟩ j) = some u := fun j u hu => by
   match j, hu with
   | 0, hu => cases hu; exact zab hX 0 rfl
   | 1, hu => cases hu; exact zab hX 1 rfl
  have HC := zaa hcell
  have hb1 : W0.heap.size <= (W.alloc (.cells #[.string y.1, .string y.2] 68)).drew.heap.size := Nat.le_trans hsz hA.drew.size
  have HB1 := zaa hb1
  clear hr hrow hv hA hrowA hX hi0 hz0 hz1 hz2 hcell hb1
  gi_wp2_with (first
   | (gi_at_builtin; go_loud (
      refine wpListIn_append_own_at _ rfl _ _ 39 rfl W0.heap.size 68 i0 _ 2 32 Tryz.underlying39 HI0.out HZ0.out HZ1.out HZ2.out rfl (by decide) (.slice A pre.length c) pre.length _ rfl HRA.out ⟨W.heap.size, 0, none⟩ 1 1 [.string y.1, .string y.2] rfl rfl HC.out (by simp [Value.oneCell']) (by unfold maxLen; omega) (by omega) HB1.out ?_
      intro v' w1 hown' hgr hnil hat
      obtain ⟨A', c', rfl, _⟩ := zad hown'
      have hrow3 : ∀ z, z < W0.heap.size -> some z ≠ Value.ownBlock (.slice A pre.length c) := fun z hz' e => by
       have := (zaz HRow.out e.symm).1
       omega
      have hv1 : Blk w1 (w.heap.size + 1 + 1 + 1) 39 #[.slice A pre.length c] := (hgr.block _ ((HV3.out.alloc _).drew).lt (fun e => hrow3 _ (by omega) e)).trans ((HV3.out.alloc _).drew)
      have c11 := zab hv1 0 rfl
      have f11 := hv1.frozen 0
      have HV1 := zaa hv1
      have HR3 := zaa hrow3
      clear hv1 hrow3
      have HOWN := zaa hown'
      have HGR := zaa hgr
      have HAT := zaa hat
      clear hown' hgr hnil hat)))
  have hWd : KeepsOthers W (W.alloc (.cells #[.string y.1, .string y.2] 68)).drew := (KeepsOthers.alloc _ _).trans (KeepsOthers.drew _)
  have hcells : ∀ (j : Nat) (o : Obj), Value.ownBlock (.slice A pre.length c) = some j -> (W.alloc (.cells #[.string y.1, .string y.2] 68)).drew.heap[j]? = some o -> o.isCells = true /\ ∃ cs, o = .cells cs 68 := by
   intro j o hj ho
   rcases HRA.out.2 with ⟨h0, _⟩ | ⟨g', cap, cur, e1, e2, e3, e4⟩
   . rw [h0] at hj; simp [Value.ownBlock] at hj
   . rw [e1] at hj
     have : j = g' := by simpa [Value.ownBlock] using hj.symm
     subst this
     rw [show (W.alloc (.cells #[.string y.1, .string y.2] 68)).drew.heap[j]? = _ from e3] at ho
     cases ho
     exact ⟨rfl, _, rfl⟩
  have hgr := HGR.out
  have hrow_ty : ∀ (j : Nat) T cs, Value.ownBlock (.slice A pre.length c) = some j -> Blk (W.alloc (.cells #[.string y.1, .string y.2] 68)) j T cs -> T = 68 := fun j T cs e hb => by
   obtain ⟨_, cs', e'⟩ := hcells j _ e hb
   cases e'
   rfl
  have hBA : Below w.heap.size W (W.alloc (.cells #[.string y.1, .string y.2] 68)) := HA.out.mono hB.size
  have hbig : ∀ j, Value.ownBlock (.slice A pre.length c) = some j -> w.heap.size <= j := fun j e => by
   have := (zaz HRow.out e).1
   omega
  have hB1 : Below w.heap.size W w1 := hBA.grown hgr (Nat.le_trans hB.size hBA.size) fun k e => hbig k e
  have hB2 : Below w.heap.size W (w1.setCell ⟨w.heap.size + 1 + 1 + 1, 0, none⟩ (.slice A' (pre.length + 1) c')) := hB1.setCell (p := ⟨w.heap.size + 1 + 1 + 1, 0, none⟩) (by simp; omega) _
  have hfar : ∀ z T cs, z < W0.heap.size -> z ≠ w.heap.size + 1 + 1 + 1 -> Blk W z T cs -> Blk (w1.setCell ⟨w.heap.size + 1 + 1 + 1, 0, none⟩ (.slice A' (pre.length + 1) c')) z T cs := fun z T cs hz hne hb => by
   have h4 := hb.alloc (.cells #[.string y.1, .string y.2] 68)
   have h5 : Blk w1 z T cs := (hgr.block z h4.lt (fun e => HR3.out z hz e)).trans h4
   exact h5.far (p := ⟨w.heap.size + 1 + 1 + 1, 0, none⟩) hne _
  refine ⟨KeepsOthers.from (((KeepsOthers.alloc _ _).trans (KeepsOthers.grown hgr fun j o e ho => (hcells j o e ho).1)).trans (KeepsOthers.setCell _ _ _)) _, ⟨hB2, fun z T cs hT hz => ?_⟩, (by rw [List.length_append]; simp only [List.length_cons, List.length_nil]; omega), ⟨_, (HV1.out.set_ 0 _), ?_⟩, hfar _ _ _ (by omega) (by omega) h1, hfar _ _ _ (by omega) (by omega) h2, hfar _ _ _ (by omega) (by omega) h3, hB.trans hB2, Nat.le_trans hsz hB2.size⟩
  . have h4 := hz.alloc (.cells #[.string y.1, .string y.2] 68)
    have h5 : Blk w1 z T cs := (hgr.block z h4.lt (fun e => by
     have := hrow_ty z T cs e.symm h4
     rcases hT with rfl | rfl
     . exact absurd this (by decide)
     . exact absurd this (by decide))).trans h4
    refine h5.far (p := ⟨w.heap.size + 1 + 1 + 1, 0, none⟩) (fun e => ?_) _
    have e' : z = w.heap.size + 1 + 1 + 1 := e
    subst e'
    have := Blk.ne_ h5 HV1.out
    rcases hT with rfl | rfl
    . exact this (by decide) rfl
    . exact this (by decide) rfl
  . have := zbh HOWN.out (p := ⟨w.heap.size + 1 + 1 + 1, 0, none⟩) (by show w.heap.size + 1 + 1 + 1 < W0.heap.size; omega) (.slice A' (pre.length + 1) c')
    rw [za1, List.length_append]
    exact this
 case done =>
  rintro D ys W hDs hys ⟨hpl, ⟨v, hv, hrow⟩, h1, h2, h3, hB, hsz⟩ hK
  have hyL : ys = L := by rw [hL, <- hys, List.take_of_length_le hpl]
  clear hys hL
  subst hyL
  have c1 := zab hv 0 rfl
  have c2 := zab h2 0 rfl
  have c3 := zab h3 0 rfl
  have f1 : W.frozen? ⟨w.heap.size + 1, 0, none⟩ = false := h2.frozen 0
  have f2 : W.frozen? ⟨w.heap.size + 1 + 1, 0, none⟩ = false := h3.frozen 0
  obtain ⟨A, c, rfl, _⟩ := zad hrow
  have HROW := zaa hrow
  clear hrow
  gi_wp2
  obtain ⟨W2, hW2⟩ : ∃ W2, W2 = (W.setCell ⟨w.heap.size + 1, 0, none⟩ (.slice A ys.length c)).setCell ⟨w.heap.size + 1 + 1, 0, none⟩ .nilIface := ⟨_, rfl⟩
  have hK2 : W2.heap[D]? = some (.deferred (some [])) := by rw [hW2]; exact ((KeepsOthers.setCell _ _ _).trans (KeepsOthers.setCell _ _ _)).same D _ hK rfl
  have hq1 : Blk W2 (w.heap.size + 1) 39 #[.slice A ys.length c] := by rw [hW2]; exact (h2.set_ 0 _).far (by simp) _
  have hq2 : Blk W2 (w.heap.size + 1 + 1) 31 #[.nilIface] := by rw [hW2]; exact (h3.far (by simp) _).set_ 0 _
  have hb2 : Below w.heap.size w W2 := by
   rw [hW2]
   exact (hB.setCell (p := ⟨w.heap.size + 1, 0, none⟩) (by simp) _).setCell (p := ⟨w.heap.size + 1 + 1, 0, none⟩) (by simp; omega) _
  have hrow2 : W2.ownsRow W0.heap.size 68 2 (.slice A ys.length c) ys.length (zaf ys) := by
   rw [hW2]
   exact zbh (zbh HROW.out (p := ⟨w.heap.size + 1, 0, none⟩) (by show w.heap.size + 1 < W0.heap.size; omega) _) (p := ⟨w.heap.size + 1 + 1, 0, none⟩) (by show w.heap.size + 1 + 1 < W0.heap.size; omega) _
  rw [<- hW2]
  refine ⟨by simp, .inl ⟨_, _, rfl, run_takeDeferred hK2, ?_⟩⟩
  have g := grownBy_putObj' W2 D (.deferred none)
  have d1 := cell_kept (zab hq1 0 rfl) g (fun r e => by cases e; exact ⟨_, hK2, rfl⟩)
  have d2 := cell_kept (zab hq2 0 rfl) g (fun r e => by cases e; exact ⟨_, hK2, rfl⟩)
  refine ⟨.tuple #[.slice A ys.length c, .nilIface], by simp [results, Tryz.results64, go_sem, d1, d2], _, rfl, ?_, ?_⟩
  . have h4 := zbg hrow2 g (fun r e => by cases e; exact ⟨_, hK2, rfl⟩)
    refine ⟨h4.1, ?_⟩
    rcases h4.2 with h0 | ⟨g', cap, cur, e1, e2, e3⟩
    . exact .inl h0
    . exact .inr ⟨g', cap, cur, e1, Nat.le_trans hbel.size e2, e3⟩
  . exact ⟨g.os.trans hb2.os, g.tape.trans hb2.tape, g.output.trans hb2.output, Nat.le_trans hb2.size g.size, fun y hy => (g.block y (Nat.lt_of_lt_of_le hy hb2.size) (fun e => by injection e; omega)).trans (hb2.block y hy)⟩
 case stop =>
  rintro D c pre W hDs hp ⟨rfl, ys, y, rfl, hpl, ⟨v, hv, hrow⟩, h1, h2, h3, hB, hsz⟩ hK
  have hyL : ys = L := by
   obtain ⟨b, hb⟩ := hp
   rw [hL, <- hb, List.append_assoc, <- hpl, List.take_left]
  clear hL hp hpl
  subst hyL
  have c1 := zab hv 0 rfl
  have c2 := zab h2 0 rfl
  have c3 := zab h3 0 rfl
  have f1 : W.frozen? ⟨w.heap.size + 1, 0, none⟩ = false := h2.frozen 0
  have f2 : W.frozen? ⟨w.heap.size + 1 + 1, 0, none⟩ = false := h3.frozen 0
  obtain ⟨A, c, rfl, _⟩ := zad hrow
  have HROW := zaa hrow
  clear hrow
  gi_wp2
  obtain ⟨W2, hW2⟩ : ∃ W2, W2 = (W.setCell ⟨w.heap.size + 1, 0, none⟩ (.slice A ys.length c)).setCell ⟨w.heap.size + 1 + 1, 0, none⟩ .nilIface := ⟨_, rfl⟩
  have hK2 : W2.heap[D]? = some (.deferred (some [])) := by rw [hW2]; exact ((KeepsOthers.setCell _ _ _).trans (KeepsOthers.setCell _ _ _)).same D _ hK rfl
  have hq1 : Blk W2 (w.heap.size + 1) 39 #[.slice A ys.length c] := by rw [hW2]; exact (h2.set_ 0 _).far (by simp) _
  have hq2 : Blk W2 (w.heap.size + 1 + 1) 31 #[.nilIface] := by rw [hW2]; exact (h3.far (by simp) _).set_ 0 _
  have hb2 : Below w.heap.size w W2 := by
   rw [hW2]
   exact (hB.setCell (p := ⟨w.heap.size + 1, 0, none⟩) (by simp) _).setCell (p := ⟨w.heap.size + 1 + 1, 0, none⟩) (by simp; omega) _
  have hrow2 : W2.ownsRow W0.heap.size 68 2 (.slice A ys.length c) ys.length (zaf ys) := by
   rw [hW2]
   exact zbh (zbh HROW.out (p := ⟨w.heap.size + 1, 0, none⟩) (by show w.heap.size + 1 < W0.heap.size; omega) _) (p := ⟨w.heap.size + 1 + 1, 0, none⟩) (by show w.heap.size + 1 + 1 < W0.heap.size; omega) _
  rw [<- hW2]
  refine ⟨by simp, .inl ⟨_, _, rfl, run_takeDeferred hK2, ?_⟩⟩
  have g := grownBy_putObj' W2 D (.deferred none)
  have d1 := cell_kept (zab hq1 0 rfl) g (fun r e => by cases e; exact ⟨_, hK2, rfl⟩)
  have d2 := cell_kept (zab hq2 0 rfl) g (fun r e => by cases e; exact ⟨_, hK2, rfl⟩)
  refine ⟨.tuple #[.slice A ys.length c, .nilIface], by simp [results, Tryz.results64, go_sem, d1, d2], _, rfl, ?_, ?_⟩
  . have h4 := zbg hrow2 g (fun r e => by cases e; exact ⟨_, hK2, rfl⟩)
    refine ⟨h4.1, ?_⟩
    rcases h4.2 with h0 | ⟨g', cap, cur, e1, e2, e3⟩
    . exact .inl h0
    . exact .inr ⟨g', cap, cur, e1, Nat.le_trans hbel.size e2, e3⟩
  . exact ⟨g.os.trans hb2.os, g.tape.trans hb2.tape, g.output.trans hb2.output, Nat.le_trans hb2.size g.size, fun y hy => (g.block y (Nat.lt_of_lt_of_le hy hb2.size) (fun e => by injection e; omega)).trans (hb2.block y hy)⟩
set_option maxHeartbeats 2000000 in
theorem zrq (t x : Nat) (τ : TxS) (s : DbS) (T : Tree) (ds : List Nat) (lo hi : ByteArray) (most : Int) (hm : most < 1) (w : World) (hT : TxAt w t τ) (hD : DbAt w x s) (hx : τ.db = x) (hk : τ.keys = T.keys) (hok : mayC s.poi τ.done false τ.write = 0)
   (hV : TreeV (fun z => z < w.heap.size) w T τ.root ds) (hR : TR T) (hp : T.pairs.length <= 150) :
   Calls Tryz.prog 64 #[.pointer (some ⟨t, 0, none⟩), .string lo, .string hi, .int .i64 most] w fun e w' => ∃ v, e = .returned (.tuple #[v, .nilIface]) /\ w'.ownsRow w.heap.size 68 2 v ((zcy T lo hi).take 0).length (zaf ((zcy T lo hi).take 0)) /\ Below w.heap.size w w' := by
 have hml : most < 1 := hm
 obtain ⟨L, hL⟩ : ∃ L, L = (zcy T lo hi).take 0 := ⟨_, rfl⟩
 rw [<- hL]
 refine (callsIn_wide (n := 3)).1 ?_
 refine callsIn_of_wp_marks Tryz.func64 rfl trivial ?_ rfl
 simp only [Tryz.ntmps64, List.size_toArray, List.length_cons, List.length_nil, Nat.reduceAdd, Nat.reduceSub, Array.replicate_succ, Array.replicate_zero, List.push_toArray, List.append_toArray, List.nil_append, List.cons_append]
 gi_wp2_with (refine ⟨trivial, ?_⟩; gi_at_call 102; refine (callsIn_wide.2 (zf5 t lo hi _)).mono ?_; rintro e w' ⟨rfl, rfl⟩)
 obtain ⟨W0, hW0⟩ : ∃ W0, W0 = ((((((w.alloc (.cells #[.int .i64 0] 3)).alloc (.cells #[.slice none 0 0] 39)).alloc (.cells #[.nilIface] 31)).alloc (.cells #[.slice none 0 0] 39)).alloc (.cells #[.pointer (some ⟨t, 0, none⟩)] 29)).alloc (.cells #[.string lo] 9)).alloc (.cells #[.string hi] 9) := ⟨_, rfl⟩
 have hz : W0.heap.size = w.heap.size + 7 := by rw [hW0]; simp only [World.size_alloc]
 have hbel : Below w.heap.size w W0 := by
  rw [hW0]
  exact ((((((((Below.refl w.heap.size w).alloc (by simp) _).alloc (by simp) _).alloc (by simp; omega) _).alloc (by simp; omega) _).alloc (by simp; omega) _).alloc (by simp; omega) _).alloc (by simp; omega) _)
 have hR0 : Blk W0 w.heap.size 3 #[.int .i64 0] := by
  rw [hW0]
  exact ((((((Blk.new w _ _).alloc _).alloc _).alloc _).alloc _).alloc _).alloc _
 have hR1 : Blk W0 (w.heap.size + 1) 39 #[.slice none 0 0] := by
  rw [hW0]
  exact (((((Blk.new2 w _ _ _).alloc _).alloc _).alloc _).alloc _).alloc _
 have hR2 : Blk W0 (w.heap.size + 1 + 1) 31 #[.nilIface] := by
  rw [hW0]
  have := Blk.new2 (w.alloc (.cells #[.int .i64 0] 3)) (.cells #[.slice none 0 0] 39) 31 #[.nilIface]
  rw [World.size_alloc] at this
  exact (((this.alloc _).alloc _).alloc _).alloc _
 have hR3 : Blk W0 (w.heap.size + 1 + 1 + 1) 39 #[.slice none 0 0] := by
  rw [hW0]
  have := Blk.new (((w.alloc (.cells #[.int .i64 0] 3)).alloc (.cells #[.slice none 0 0] 39)).alloc (.cells #[.nilIface] 31)) 39 #[.slice none 0 0]
  simp only [World.size_alloc] at this
  exact ((this.alloc _).alloc _).alloc _
 have hB0 : Blk W0 (w.heap.size + 1 + 1 + 1 + 1) 29 #[.pointer (some ⟨t, 0, none⟩)] := by
  rw [hW0]
  have := Blk.new ((((w.alloc (.cells #[.int .i64 0] 3)).alloc (.cells #[.slice none 0 0] 39)).alloc (.cells #[.nilIface] 31)).alloc (.cells #[.slice none 0 0] 39)) 29 #[.pointer (some ⟨t, 0, none⟩)]
  simp only [World.size_alloc] at this
  exact (this.alloc _).alloc _
 have hB1 : Blk W0 (w.heap.size + 1 + 1 + 1 + 1 + 1) 9 #[.string lo] := by
  rw [hW0]
  have := Blk.new (((((w.alloc (.cells #[.int .i64 0] 3)).alloc (.cells #[.slice none 0 0] 39)).alloc (.cells #[.nilIface] 31)).alloc (.cells #[.slice none 0 0] 39)).alloc (.cells #[.pointer (some ⟨t, 0, none⟩)] 29)) 9 #[.string lo]
  simp only [World.size_alloc] at this
  exact this.alloc _
 have hB2 : Blk W0 (w.heap.size + 1 + 1 + 1 + 1 + 1 + 1) 9 #[.string hi] := by
  rw [hW0]
  have := Blk.new ((((((w.alloc (.cells #[.int .i64 0] 3)).alloc (.cells #[.slice none 0 0] 39)).alloc (.cells #[.nilIface] 31)).alloc (.cells #[.slice none 0 0] 39)).alloc (.cells #[.pointer (some ⟨t, 0, none⟩)] 29)).alloc (.cells #[.string lo] 9)) 9 #[.string hi]
  simp only [World.size_alloc] at this
  exact this
 have hT0 := hT.below hbel hT.lt
 have hD0 := hD.below hbel hD.lt
 have hV0 : TreeV (fun z => z < W0.heap.size) W0 T τ.root ds := hV.below hbel fun z hz' => by omega
 rw [<- hW0]
 refine wpIn_rangeFunc_ownH (α := Str × Str) rfl (by omega) (gf := 140) (lb := #[.pointer (some ⟨w.heap.size + 1 + 1 + 1 + 1, 0, none⟩), .pointer (some ⟨w.heap.size + 1 + 1 + 1 + 1 + 1, 0, none⟩), .pointer (some ⟨w.heap.size + 1 + 1 + 1 + 1 + 1 + 1, 0, none⟩)]) rfl trivial (enters_of Tryz.func140 (by kernel_rfl) rfl)
  (encs := zmj) (Kp := KpY w.heap.size) (S := fun xs => xs = zcy T lo hi) (Sp := fun xs => xs <+: zcy T lo hi) (N := 200) (w0 := W0) ?hseq (fun h k => h.trans k) (fun W l o o' => KpY.put hbel.size W l o o') (Below.refl _ _) (fun _ => rfl)
  (fun pre W => pre.length <= 0 /\ (∃ v, Blk W (w.heap.size + 1 + 1 + 1) 39 #[v] /\ W.ownsRow W0.heap.size 68 2 v pre.length (zaf pre)) /\ Blk W w.heap.size 3 #[.int .i64 0] /\ Blk W (w.heap.size + 1) 39 #[.slice none 0 0] /\ Blk W (w.heap.size + 1 + 1) 31 #[.nilIface] /\ Below w.heap.size w W /\ W0.heap.size <= W.heap.size)
  (fun c pre W => c = .exit 0 /\ ∃ p y, pre = p ++ [y] /\ p.length = 0 /\ (∃ v, Blk W (w.heap.size + 1 + 1 + 1) 39 #[v] /\ W.ownsRow W0.heap.size 68 2 v p.length (zaf p)) /\ Blk W w.heap.size 3 #[.int .i64 0] /\ Blk W (w.heap.size + 1) 39 #[.slice none 0 0] /\ Blk W (w.heap.size + 1 + 1) 31 #[.nilIface] /\ Below w.heap.size w W /\ W0.heap.size <= W.heap.size) ?hI ?hIx ⟨Nat.zero_le _, ⟨_, hR3, World.ownsRow_nil _ _ _ _⟩, hR0, hR1, hR2, hbel, Nat.le_refl _⟩
  (fun y a' W => ∃ Bx, W0.heap.size <= Bx /\ Blk W Bx 68 #[.string y.1, .string y.2] /\ a' = { tmps := #[.pointer (some ⟨t, 0, none⟩), .string lo, .string hi, .int .i64 most, undef, undef, undef, .pointer (some ⟨w.heap.size, 0, none⟩), .pointer (some ⟨w.heap.size + 1, 0, none⟩), .pointer (some ⟨w.heap.size + 1 + 1, 0, none⟩), .pointer (some ⟨w.heap.size + 1 + 1 + 1, 0, none⟩), .pointer (some ⟨Bx, 0, none⟩), .nilIface, .int .i64 most, .bool true, .pointer (some ⟨t, 0, none⟩), .string lo, .string hi, .func (.func 140) #[] #[.pointer (some ⟨w.heap.size + 1 + 1 + 1 + 1, 0, none⟩), .pointer (some ⟨w.heap.size + 1 + 1 + 1 + 1 + 1, 0, none⟩), .pointer (some ⟨w.heap.size + 1 + 1 + 1 + 1 + 1 + 1, 0, none⟩)], .agg #[.string y.1, .string y.2], .nilIface, undef, undef, undef, undef, undef, undef, undef, undef, undef, undef, undef, undef], defers := [] })
  ?hAx ?hassign ?hbody ?done ?stop
 case hseq =>
  intro l J Jx W hW hJ hJx hY h0
  exact callsIn_wide.2 (zol t x _ _ _ l τ s T ds w.heap.size lo hi J Jx W (hT0.below hW hT0.lt) (hD0.below hW hD0.lt) hx hk hok (hV.below (hbel.trans (hW.mono hbel.size)) fun _ h => h) hR hp (hB0.below hW hB0.lt) (hB1.below hW hB1.lt) (hB2.below hW hB2.lt) (Nat.le_trans hbel.size hW.size) hJ hJx h0 (fun pre y W1 hj hl => YieldAt.any rfl 2 (hY pre y W1 hj hl)))
 case hI =>
  rintro pre W W' row ⟨hpl, ⟨v, hv, hrow⟩, h1, h2, h3, hB, hsz⟩ hg hr
  have hr' := fun r e => (hr r e).2
  exact ⟨hpl, ⟨v, zaq hv hg hr', zbg hrow hg hr'⟩, zaq h1 hg hr', zaq h2 hg hr', zaq h3 hg hr', hB.grown hg hB.size fun k e => (by have := (hr k e).1; omega), Nat.le_trans hsz hg.size⟩
 case hIx =>
  rintro c pre W W' row ⟨hc, p, y, hpy, hpl, ⟨v, hv, hrow⟩, h1, h2, h3, hB, hsz⟩ hg hr
  have hr' := fun r e => (hr r e).2
  exact ⟨hc, p, y, hpy, hpl, ⟨v, zaq hv hg hr', zbg hrow hg hr'⟩, zaq h1 hg hr', zaq h2 hg hr', zaq h3 hg hr', hB.grown hg hB.size fun k e => (by have := (hr k e).1; omega), Nat.le_trans hsz hg.size⟩
 case hAx =>
  rintro y a' u W W' row ⟨Bx, h1, h2, h3⟩ hg hr
  exact ⟨Bx, h1, zaq h2 hg (fun r e => (hr r e).2), h3⟩
 case hassign =>
  rintro l pre y W K ⟨hpl, ⟨v, hv, hrow⟩, h1, h2, h3, hB, hsz⟩ hK
  have hA := (Below.refl W.heap.size W).alloc (Nat.le_refl _) (.cells #[.string y.1, .string y.2] 68)
  have hKp : KpY w.heap.size W (W.alloc (.cells #[.string y.1, .string y.2] 68)) := ⟨hA.mono hB.size, fun z T cs _ hz => hz.alloc _⟩
  have hI' : (∃ v, Blk (W.alloc (.cells #[.string y.1, .string y.2] 68)) (w.heap.size + 1 + 1 + 1) 39 #[v] /\ (W.alloc (.cells #[.string y.1, .string y.2] 68)).ownsRow W0.heap.size 68 2 v pre.length (zaf pre)) := ⟨v, hv.alloc _, zbg (row := none) hrow (Below.grown hA) (fun r e => by cases e)⟩
  have hX := Blk.new W 68 #[.string y.1, .string y.2]
  unfold zmj
  gi_wp2
  exact hK _ _ ((KeepsOthers.alloc _ _).from _) hKp ⟨hpl, hI', h1.alloc _, h2.alloc _, h3.alloc _, hB.trans (hA.mono hB.size), Nat.le_trans hsz hA.size⟩ ⟨_, hsz, hX, rfl⟩
 case hbody =>
  rintro l pre y a' W hl ⟨r, hr⟩ ⟨hpl, ⟨v, hv, hrow⟩, h1, h2, h3, hB, hsz⟩ ⟨Bx, hBx, bX, rfl⟩ hlt
  obtain ⟨A, c, rfl, _⟩ := zad hrow
  have c10 := zab hv 0 rfl
  have f10 := hv.frozen 0
  have c7 := zab h1 0 rfl
  have x0 := zab bX 0 rfl
  have x1 := zab bX 1 rfl
  by_cases hbk : pre.length = 0
  . have hq : (pre.length : Int) = 0 := by omega
    have hq2 : ((pre.length : Int) == 0) = true := by simpa using hq
    have HRow := zaa hrow
    have HV3 := zaa hv
    clear hr hrow hv
    gi_wp2
    exact ⟨(KeepsOthers.refl _).from _, rfl, pre, y, rfl, hbk, ⟨_, HV3.out, HRow.out⟩, h1, h2, h3, hB, hsz⟩
  omega
 case done =>
  rintro D ys W hDs hys ⟨hpl, ⟨v, hv, hrow⟩, h1, h2, h3, hB, hsz⟩ hK
  have hyL : ys = L := by rw [hL, <- hys, List.take_of_length_le hpl]
  clear hys hL
  subst hyL
  have c1 := zab hv 0 rfl
  have c2 := zab h2 0 rfl
  have c3 := zab h3 0 rfl
  have f1 : W.frozen? ⟨w.heap.size + 1, 0, none⟩ = false := h2.frozen 0
  have f2 : W.frozen? ⟨w.heap.size + 1 + 1, 0, none⟩ = false := h3.frozen 0
  obtain ⟨A, c, rfl, _⟩ := zad hrow
  have HROW := zaa hrow
  clear hrow
  gi_wp2
  obtain ⟨W2, hW2⟩ : ∃ W2, W2 = (W.setCell ⟨w.heap.size + 1, 0, none⟩ (.slice A ys.length c)).setCell ⟨w.heap.size + 1 + 1, 0, none⟩ .nilIface := ⟨_, rfl⟩
  have hK2 : W2.heap[D]? = some (.deferred (some [])) := by rw [hW2]; exact ((KeepsOthers.setCell _ _ _).trans (KeepsOthers.setCell _ _ _)).same D _ hK rfl
  have hq1 : Blk W2 (w.heap.size + 1) 39 #[.slice A ys.length c] := by rw [hW2]; exact (h2.set_ 0 _).far (by simp) _
  have hq2 : Blk W2 (w.heap.size + 1 + 1) 31 #[.nilIface] := by rw [hW2]; exact (h3.far (by simp) _).set_ 0 _
  have hb2 : Below w.heap.size w W2 := by
   rw [hW2]
   exact (hB.setCell (p := ⟨w.heap.size + 1, 0, none⟩) (by simp) _).setCell (p := ⟨w.heap.size + 1 + 1, 0, none⟩) (by simp; omega) _
  have hrow2 : W2.ownsRow W0.heap.size 68 2 (.slice A ys.length c) ys.length (zaf ys) := by
   rw [hW2]
   exact zbh (zbh HROW.out (p := ⟨w.heap.size + 1, 0, none⟩) (by show w.heap.size + 1 < W0.heap.size; omega) _) (p := ⟨w.heap.size + 1 + 1, 0, none⟩) (by show w.heap.size + 1 + 1 < W0.heap.size; omega) _
  rw [<- hW2]
  refine ⟨by simp, .inl ⟨_, _, rfl, run_takeDeferred hK2, ?_⟩⟩
  have g := grownBy_putObj' W2 D (.deferred none)
  have d1 := cell_kept (zab hq1 0 rfl) g (fun r e => by cases e; exact ⟨_, hK2, rfl⟩)
  have d2 := cell_kept (zab hq2 0 rfl) g (fun r e => by cases e; exact ⟨_, hK2, rfl⟩)
  refine ⟨.tuple #[.slice A ys.length c, .nilIface], by simp [results, Tryz.results64, go_sem, d1, d2], _, rfl, ?_, ?_⟩
  . have h4 := zbg hrow2 g (fun r e => by cases e; exact ⟨_, hK2, rfl⟩)
    refine ⟨h4.1, ?_⟩
    rcases h4.2 with h0 | ⟨g', cap, cur, e1, e2, e3⟩
    . exact .inl h0
    . exact .inr ⟨g', cap, cur, e1, Nat.le_trans hbel.size e2, e3⟩
  . exact ⟨g.os.trans hb2.os, g.tape.trans hb2.tape, g.output.trans hb2.output, Nat.le_trans hb2.size g.size, fun y hy => (g.block y (Nat.lt_of_lt_of_le hy hb2.size) (fun e => by injection e; omega)).trans (hb2.block y hy)⟩
 case stop =>
  rintro D c pre W hDs hp ⟨rfl, ys, y, rfl, hpl, ⟨v, hv, hrow⟩, h1, h2, h3, hB, hsz⟩ hK
  have hyL : ys = L := by
   obtain ⟨b, hb⟩ := hp
   rw [hL, <- hb, List.append_assoc, <- hpl, List.take_left]
  clear hL hp hpl
  subst hyL
  have c1 := zab hv 0 rfl
  have c2 := zab h2 0 rfl
  have c3 := zab h3 0 rfl
  have f1 : W.frozen? ⟨w.heap.size + 1, 0, none⟩ = false := h2.frozen 0
  have f2 : W.frozen? ⟨w.heap.size + 1 + 1, 0, none⟩ = false := h3.frozen 0
  obtain ⟨A, c, rfl, _⟩ := zad hrow
  have HROW := zaa hrow
  clear hrow
  gi_wp2
  obtain ⟨W2, hW2⟩ : ∃ W2, W2 = (W.setCell ⟨w.heap.size + 1, 0, none⟩ (.slice A ys.length c)).setCell ⟨w.heap.size + 1 + 1, 0, none⟩ .nilIface := ⟨_, rfl⟩
  have hK2 : W2.heap[D]? = some (.deferred (some [])) := by rw [hW2]; exact ((KeepsOthers.setCell _ _ _).trans (KeepsOthers.setCell _ _ _)).same D _ hK rfl
  have hq1 : Blk W2 (w.heap.size + 1) 39 #[.slice A ys.length c] := by rw [hW2]; exact (h2.set_ 0 _).far (by simp) _
  have hq2 : Blk W2 (w.heap.size + 1 + 1) 31 #[.nilIface] := by rw [hW2]; exact (h3.far (by simp) _).set_ 0 _
  have hb2 : Below w.heap.size w W2 := by
   rw [hW2]
   exact (hB.setCell (p := ⟨w.heap.size + 1, 0, none⟩) (by simp) _).setCell (p := ⟨w.heap.size + 1 + 1, 0, none⟩) (by simp; omega) _
  have hrow2 : W2.ownsRow W0.heap.size 68 2 (.slice A ys.length c) ys.length (zaf ys) := by
   rw [hW2]
   exact zbh (zbh HROW.out (p := ⟨w.heap.size + 1, 0, none⟩) (by show w.heap.size + 1 < W0.heap.size; omega) _) (p := ⟨w.heap.size + 1 + 1, 0, none⟩) (by show w.heap.size + 1 + 1 < W0.heap.size; omega) _
  rw [<- hW2]
  refine ⟨by simp, .inl ⟨_, _, rfl, run_takeDeferred hK2, ?_⟩⟩
  have g := grownBy_putObj' W2 D (.deferred none)
  have d1 := cell_kept (zab hq1 0 rfl) g (fun r e => by cases e; exact ⟨_, hK2, rfl⟩)
  have d2 := cell_kept (zab hq2 0 rfl) g (fun r e => by cases e; exact ⟨_, hK2, rfl⟩)
  refine ⟨.tuple #[.slice A ys.length c, .nilIface], by simp [results, Tryz.results64, go_sem, d1, d2], _, rfl, ?_, ?_⟩
  . have h4 := zbg hrow2 g (fun r e => by cases e; exact ⟨_, hK2, rfl⟩)
    refine ⟨h4.1, ?_⟩
    rcases h4.2 with h0 | ⟨g', cap, cur, e1, e2, e3⟩
    . exact .inl h0
    . exact .inr ⟨g', cap, cur, e1, Nat.le_trans hbel.size e2, e3⟩
  . exact ⟨g.os.trans hb2.os, g.tape.trans hb2.tape, g.output.trans hb2.output, Nat.le_trans hb2.size g.size, fun y hy => (g.block y (Nat.lt_of_lt_of_le hy hb2.size) (fun e => by injection e; omega)).trans (hb2.block y hy)⟩
end Go.Proofs.YtemondlgcmpbbaaGreatDoor
namespace Go.Proofs.YtemondlgcmpbbaaGreatDoor
open Go.RowKit
set_option maxRecDepth 100000
def inB (lo hi : Str) (p : Str × Str) : Bool := !slt p.1 lo && slt p.1 hi
theorem zrr (lo hi : Str) (l : List (Str × Str)) (p : Str × Str) : (l ++ [p]).filter (inB lo hi) = l.filter (inB lo hi) ++ (if inB lo hi p then [p] else []) := by
 rw [List.filter_append]
 cases h : inB lo hi p <;> simp [h]
theorem zrs (lo hi : Str) (l : List (Str × Str)) (j m : Nat) (h : m <= ((l.take j).filter (inB lo hi)).length) (h2 : ((l.take j).filter (inB lo hi)).length <= m) : (l.filter (inB lo hi)).take m = (l.take j).filter (inB lo hi) := by
 have e : l.filter (inB lo hi) = (l.take j).filter (inB lo hi) ++ (l.drop j).filter (inB lo hi) := by rw [<- List.filter_append, List.take_append_drop]
 rw [e, List.take_left' (by omega)]
set_option maxHeartbeats 2000000 in
theorem zkw (lv : Value) (l : List (Str × Str)) (lo hi : Str) (most : Int) (w : World) (h : RRow w lv l) (hl : l.length <= 1000) :
   Calls Tryz.prog 210 #[.agg #[lv], .string lo, .string hi, .int .i64 most] w fun e w' => ∃ v, e = .returned v /\ RRow w' v ((l.filter (inB lo hi)).take most.toNat) /\ Below w.heap.size w w' := by
 obtain ⟨i0, hi0, hz0, hz1, hz2⟩ := info_parts ze3
 have HI0 := zaa hi0
 have HZ0 := zaa hz0
 have HZ1 := zaa hz1
 have HZ2 := zaa hz2
 obtain ⟨A, c, rfl⟩ := h.form
 obtain ⟨base, hown0⟩ := h
 obtain ⟨n, hn⟩ : ∃ n, n = l.length := ⟨_, rfl⟩
 rw [<- hn] at hown0 hl ⊢
 obtain ⟨hc1, hc2, hc⟩ := zca hown0 hn
 have HN := zaa hn
 have HC := zaa hc
 clear hi0 hz0 hz1 hz2 hown0 hc hn
 go_enter Tryz.func210, Tryz.ntmps210
 go_wp2
 go_loopw [9, 10] (fun o i wr => ∃ j : Nat, j <= n /\ i = .int .i64 j /\ (∃ out, (l.take j).filter (inB lo hi) = out /\ out.length <= j /\ out.length <= most.toNat /\ wr.ownsRow (w.heap.size + 1) 303 2 o out.length (zaf out)) /\ Blk wr w.heap.size 241 #[.slice A n c] /\ Below w.heap.size w wr /\ w.heap.size + 1 <= wr.heap.size) (fun _ i _ => n - (intOf i).toNat)
 case atStart => exact ⟨0, Nat.zero_le _, rfl, ⟨[], rfl, Nat.zero_le _, Nat.zero_le _, World.ownsRow_nil _ _ _ _⟩, Blk.new _ _ _, (Below.refl _ _).alloc (Nat.le_refl _) _, by simp⟩
 case round =>
  obtain ⟨j, hj, rfl, ⟨out, hf, hol, hom, hown⟩, hbox, hbr, hsz⟩ := hrel
  obtain ⟨A1, c1, rfl, hrest⟩ := zad hown
  have q0 := zab hbox 0 rfl
  have q0' := fun o => zaj o q0
  obtain ⟨nO, hnO⟩ : ∃ nO, nO = out.length := ⟨_, rfl⟩
  by_cases hlt : j < n
  . have m0 : (0 : Int) <= (j : Int) := by omega
    have m1 : (j : Int) < (n : Int) := by omega
    by_cases hmo : (out.length : Int) < most
    . have hwr : IntKind.i64.wrap ((j : Int) + 1) = (j : Int) + 1 := by rw [IntKind.wrap_i64]; omega
      have hjl : j < l.length := by have := HN.out; omega
      obtain ⟨⟨a, b⟩, hx⟩ : ∃ x, l[j]? = some x := ⟨_, List.getElem?_eq_getElem hjl⟩
      have hnext : (l.take (j + 1)).filter (inB lo hi) = out ++ (if inB lo hi (a, b) then [(a, b)] else []) := by rw [List.take_add_one, hx, Option.toList_some, zrr, hf]
      obtain ⟨g, rfl, x1, x2⟩ := HC.out j _ hx
      replace x1 := za4 x1 hbr
      replace x2 := za4 x2 hbr
      have HX := zaa hnext
      have HO := zaa hown
      have HB := zaa hbox
      have HBR := zaa hbr
      clear hf hown hbr hbox hnext hx hjl hrest
      cases p1 : Op.bytesLess a.toList lo.toList with
      | true =>
        have e1 : inB lo hi (a, b) = false := by unfold inB slt; simp [p1]
        go_wp2
        go_roundw
        case rel =>
         refine ⟨j + 1, by omega, by go_num, ⟨out, ?_, by omega, hom, HO.out⟩, HB.out, HBR.out, hsz⟩
         rw [HX.out, e1]; simp
        case measure => simp [intOf]; omega
      | false =>
        cases p2 : Op.bytesLess a.toList hi.toList with
        | false =>
          have e1 : inB lo hi (a, b) = false := by unfold inB slt; simp [p2]
          go_wp2
          go_roundw
          case rel =>
           refine ⟨j + 1, by omega, by go_num, ⟨out, ?_, by omega, hom, HO.out⟩, HB.out, HBR.out, hsz⟩
           rw [HX.out, e1]; simp
          case measure => simp [intOf]; omega
        | true =>
          have e1 : inB lo hi (a, b) = true := by unfold inB slt; simp [p1, p2]
          go_wp2_with (first
           | (at_builtin; (
              refine zah _ rfl _ _ 239 rfl (w.heap.size + 1) 303 i0 _ 2 32 Tryz.underlying239 HI0.out HZ0.out HZ1.out HZ2.out rfl (by decide) (.slice A1 (out.length) c1) (out.length) _ rfl (HO.out.alloc _) (wr.heap.size + 1) (some ⟨wr.heap.size, 0, none⟩) 1 1 [.string a, .string b] rfl ⟨rfl, fun _ => ⟨_, rfl, Nat.lt_succ_self _, zc4 _ _ _ _ _ rfl⟩⟩ ?_ ?_ ?_ ?_ ?_
              . simp [Value.oneCell']
              . unfold maxLen; omega
              . omega
              . simp only [World.size_alloc]; omega
              intro vw2 w2 hown2 hgr2 hat2
              have hboxn : some w.heap.size ≠ (Value.slice A1 out.length c1).ownBlock := fun e => by have := (zaz HO.out e.symm).1; omega
              have hb2 := (Blk.alloc HB.out (.cells #[.string a, .string b] 303)).grown hgr2 hboxn
              have hbr2 : Below w.heap.size w w2 := (HBR.out.alloc HBR.out.size (.cells #[.string a, .string b] 303)).grown hgr2 (by have := HBR.out.size; simp only [World.size_alloc]; omega) (fun g' e => by have := (zaz HO.out e).1; omega)
              have hsz2 : w.heap.size + 1 <= w2.heap.size := by have := hgr2.size; simp only [World.size_alloc] at this; omega
              obtain ⟨A2, c2, rfl, hx2⟩ := zad hown2
              clear hx2
              have HO2 := zaa hown2
              have HB2 := zaa hb2
              have HBR2 := zaa hbr2
              have HSZ2 := zaa hsz2
              clear hown2 hgr2 hat2 hb2 hbr2 hsz2)))
          go_roundw
          case rel =>
           refine ⟨j + 1, by omega, by go_num, ⟨out ++ [(a, b)], ?_, ?_, ?_, ?_⟩, HB2.out, HBR2.out, HSZ2.out⟩
           . rw [HX.out, e1]; rfl
           . rw [List.length_append]; simp; omega
           . rw [List.length_append]; simp; omega
           . rw [za1, List.length_append]; exact HO2.out
          case measure => simp [intOf]; omega
    . have hall : (l.filter (inB lo hi)).take most.toNat = out := by rw [<- hf]; exact zrs lo hi l j _ (by rw [hf]; omega) (by rw [hf]; omega)
      have HA := zaa hall
      have HO := zaa hown
      have HBR := zaa hbr
      clear hall hf hown hbr hbox hrest
      go_wp2
      go_ret
      exact ⟨_, rfl, by rw [HA.out]; exact ⟨_, HO.out⟩, HBR.out⟩
  . have m1 : ¬ (j : Int) < (n : Int) := by omega
    obtain rfl : j = n := by omega
    have hall : (l.filter (inB lo hi)).take most.toNat = out := by
     rw [HN.out, List.take_length] at hf
     rw [hf, List.take_of_length_le hom]
    have HA := zaa hall
    have HO := zaa hown
    have HBR := zaa hbr
    clear hall hf hown hbr hbox hrest
    go_wp2
    go_ret
    exact ⟨_, rfl, by rw [HA.out]; exact ⟨_, HO.out⟩, HBR.out⟩
theorem zp2 {l : List (Str × Str)} (hr : zcs l) (hi : Str) : l.takeWhile (fun e => slt e.1 hi) = l.filter (fun e => slt e.1 hi) := by
 induction l with
 | nil => rfl
 | cons a l ih =>
   have h1 : ∀ y ∈ l, slt a.1 y.1 = true := (List.pairwise_cons.1 hr).1
   have h2 : zcs l := (List.pairwise_cons.1 hr).2
   cases h : slt a.1 hi with
   | true => rw [List.takeWhile_cons_of_pos (by simpa using h), List.filter_cons_of_pos (by simpa using h), ih h2]
   | false =>
     rw [List.takeWhile_cons_of_neg (by simp [h]), List.filter_cons_of_neg (by simp [h])]
     refine (List.filter_eq_nil_iff.2 fun y hy => ?_).symm
     have : slt y.1 hi = false := by
      cases k : slt y.1 hi with
      | false => rfl
      | true => rw [zbn (h1 y hy) k] at h; cases h
     simp [this]
theorem zrt {T : Tree} {lo hi : Str} (hr : zcs T.pairs) : zcy T lo hi = T.pairs.filter (inB lo hi) := by
 unfold zcy zb4
 obtain ⟨h1, h2⟩ := zfx lo T.pairs hr
 rw [zp2 (List.Pairwise.sublist (List.drop_sublist _ _) hr)]
 have e : T.pairs.filter (inB lo hi) = (T.pairs.take (place lo T.pairs)).filter (inB lo hi) ++ (T.pairs.drop (place lo T.pairs)).filter (inB lo hi) := by rw [<- List.filter_append, List.take_append_drop]
 have e2 : (T.pairs.take (place lo T.pairs)).filter (inB lo hi) = [] := List.filter_eq_nil_iff.2 fun y hy => by unfold inB; rw [h1 y hy]; simp
 rw [e, e2, List.nil_append]
 exact List.filter_congr fun y hy => by unfold inB; rw [h2 y hy]; simp
section
variable {w : World} {B N p x : Nat} {s : LdS} {bv cv : Value} {m : Nums} {τ : TxI} {S : DbS}
theorem zp3 (lo hi : Str) (most : Int) (hτ : TxOk w x B N τ) (hD : DbAt w x S) (hS : S.poi = false) (hdn : τ.done = false) :
   Calls Tryz.prog 64 #[pkv τ.t, .string lo, .string hi, .int .i64 most] w fun e w' => ∃ v, e = .returned (.tuple #[v, .nilIface]) /\ w'.ownsRow w.heap.size 68 2 v ((τ.T.pairs.filter (inB lo hi)).take most.toNat).length (zaf ((τ.T.pairs.filter (inB lo hi)).take most.toNat)) /\ Below w.heap.size w w' := by
 have hok : mayC S.poi (τ.tx x).done false (τ.tx x).write = 0 := by
  show mayC S.poi τ.done false τ.wr = 0
  rw [hS, hdn]; rfl
 have hlen := hτ.len
 rw [<- zrt (zmn hτ.tr.tw)]
 by_cases hm : most < 1
 . have e : most.toNat = 0 := by omega
   rw [e]
   exact zrq τ.t x (τ.tx x) S τ.T τ.dn lo hi most hm w hτ.tx hD rfl rfl hok hτ.tree hτ.tr (by omega)
 . obtain ⟨k, hk⟩ : ∃ k : Nat, most = k := ⟨most.toNat, by omega⟩
   subst hk
   rw [Int.toNat_natCast]
   exact zti τ.t x (τ.tx x) S τ.T τ.dn lo hi k (by omega) w hτ.tx hD rfl rfl hok hτ.tree hτ.tr (by omega)
theorem zru (lo hi : Str) (most : Int) (hτ : TxOk w x B N τ) (hD : DbAt w x S) (hS : S.poi = false) (hdn : τ.done = true) :
   Calls Tryz.prog 64 #[pkv τ.t, .string lo, .string hi, .int .i64 most] w fun e w' => (∃ f, e = .returned (.tuple #[.slice none 0 0, zag f]) /\ zao w' f ⟨#[97, 108, 108]⟩ 5) /\ Below w.heap.size w w' := by
 have hno : mayC S.poi (τ.tx x).done false (τ.tx x).write = 5 := by
  show mayC S.poi τ.done false τ.wr = 5
  rw [hS, hdn]; rfl
 obtain ⟨q, hq⟩ : ∃ q, τ.rp = .pointer q := by
  rcases hτ.tree with ⟨_, e, _⟩ | ⟨_, _, b, _, e, _⟩
  . exact ⟨_, e⟩
  . exact ⟨_, e⟩
 by_cases hm : most < 1
 . have := zp0 τ.t x (τ.tx x) S lo hi most hm w hτ.tx hD rfl q hq (by rw [hno]; decide)
   rw [hno] at this
   exact this
 . have := zro τ.t x (τ.tx x) S lo hi most (by omega) w hτ.tx hD rfl q hq (by rw [hno]; decide)
   rw [hno] at this
   exact this
set_option maxHeartbeats 4000000 in
theorem zmv (lo hi : Str) (most : Int) (hl : LdAt w p s) (hpoi : s.poi = false) (hdev : DkAt w s.db bv cv m) (hτ : TxOk w x B N τ) (hD : DbAt w x S) (hS : S.poi = false) (hg : Glob w) (hdn : τ.done = true) :
   Calls Tryz.prog 186 #[pkv p, pkv τ.l, .string lo, .string hi, .int .i64 most] w fun e w' => e = .returned (.bool true) /\ Below w.heap.size w w' := by
 have HSC := zaa (zru lo hi most hτ hD hS hdn)
 have hlen := hτ.len
 obtain ⟨l, t, wr, done, st, mst, T, rp, dn, lv, csv, cs⟩ := τ
 obtain ⟨db, n, may, emp, were, wild, bit, xv, c, commits, poi, ts, lists, want⟩ := s
 simp only at hpoi hdev hlen hdn
 subst hpoi
 subst hdn
 have HT := zaa (zbc db bv cv m w hdev)
 have hrow : RRow w lv T.pairs := hτ.row
 obtain ⟨t0, _⟩ := zbm hτ.law
 obtain ⟨k0, _⟩ := zar hl
 have hcell : ∀ W, Below w.heap.size w W -> W.cell? ⟨l, 1, none⟩ = some lv /\ W.cell? ⟨l, 3, none⟩ = some (.bool true) /\ W.cell? ⟨p, 10, none⟩ = some (.bool false) /\ RRow W lv T.pairs /\ Glob W := fun W hb => by
  have h1 := Blk.below hτ.law hb hτ.law.lt
  have h2 := Blk.below hl hb hl.lt
  exact ⟨zab h1 1 rfl, zab h1 3 rfl, zab h2 10 rfl, hrow.below hb, hg.only (fp := fun _ => False) (Only.of_below hb) id⟩
 have HC := zaa hcell
 have HRS := zaa (fun W (h : RRow W lv T.pairs) => zkw lv T.pairs lo hi most W h (by omega))
 unfold pkv at *
 clear hτ hl hD hrow hcell hdev hg
 go_enter Tryz.func186, Tryz.ntmps186
 go_wp2_with (first
  | (go_at_call 178; refine HT.out.mono ?_; rintro e w' ⟨rfl, rfl⟩)
  | (go_at_call 64; (
     refine HSC.out.mono ?_; rintro e w1 ⟨⟨f, rfl, hf⟩, hb1⟩
     have HTF := zaa (zbl f 5 _ w1 hf (HC.out _ hb1).2.2.2.2)
     have HB1 := zaa hb1
     clear hf hb1
     unfold zag at HTF
     unfold zag))
  | (go_at_call 30; (
     refine HTF.out.mono ?_; rintro e w2 ⟨rfl, hb2⟩
     have hb2' := HB1.out.trans (hb2.mono HB1.out.size)
     obtain ⟨l1, l3, p10, hrw, _⟩ := HC.out _ hb2'
     have HRR := zaa (HRS.out w2 hrw)
     have HB2 := zaa hb2'
     clear hrw hb2 hb2'))
  | (go_at_call 179; refine (za6 _ _).mono ?_; rintro e w' ⟨rfl, rfl⟩)
  | (go_at_call 210; (
     refine HRR.out.mono ?_; rintro e w3 ⟨v3, rfl, _, hb3⟩
     have hb3' := HB2.out.trans (hb3.mono HB2.out.size)
     obtain ⟨l1', l3', p10', _⟩ := HC.out w3 hb3'
     clear l1 l3 p10
     have HB3 := zaa hb3'
     clear hb3 hb3')))
 all_goals (go_ret; exact ⟨rfl, HB3.out⟩)
theorem KeepTo.more {w w' : World} {p B n : Nat} {s : LdS} {xs ys : List Value} {fp fq : Nat -> Prop} (h : KeepTo w w' p B n s xs ys fp) (hs : ∀ y, fp y -> fq y) : KeepTo w w' p B n s xs ys fq := by
 obtain ⟨L, W, e1, e2, h1, h2, h3, h4, h5, h6, h7, h8⟩ := h
 exact ⟨L, W, e1, e2, h1, h2, h3, h4, h5, h6, h7, h8.mono fun y _ hy => hy.imp (hs y) id⟩
set_option maxHeartbeats 4000000 in
theorem zmw (lo hi : Str) (most : Int) (n : Nat) (xs ys : List Value) (hl : LdAt w p s) (hpoi : s.poi = false) (hdev : DkAt w s.db bv cv m) (hτ : TxOk w x B N τ) (hD : DbAt w x S) (hS : S.poi = false) (hdn : τ.done = false)
   (ha : w.ownsRow B 39 1 s.lists n xs) (hb : w.ownsRow B 39 1 s.want n ys) (hne : ∀ g, s.lists.ownBlock = some g -> s.want.ownBlock ≠ some g) (hB : B <= w.heap.size) (hn : n <= 90000) :
   Calls Tryz.prog 186 #[pkv p, pkv τ.l, .string lo, .string hi, .int .i64 most] w fun e w' => e = .returned (.bool true) /\ ∃ W1, Below w.heap.size w W1 /\ KeepTo W1 w' p B n s xs ys (fun y => w.heap.size <= y) := by
 have hsc := zp3 lo hi most hτ hD hS hdn
 have hlen := hτ.len
 obtain ⟨l, t, wr, done, st, mst, T, rp, dn, lv, csv, cs⟩ := τ
 obtain ⟨db, nn, may, emp, were, wild, bit, xv, c, commits, poi, ts, lists, want⟩ := s
 simp only at hpoi hdev hlen hdn ha hb hne hsc
 subst hpoi
 subst hdn
 obtain ⟨L, hL⟩ : ∃ L, L = (T.pairs.filter (inB lo hi)).take most.toNat := ⟨_, rfl⟩
 have hLl : L.length <= 140 := by
  rw [hL]
  exact Nat.le_trans (List.length_take_le' _ _) (Nat.le_trans (List.length_filter_le _ _) hlen)
 have hrs : ∀ W, RRow W lv T.pairs -> _ := fun W h => zkw lv T.pairs lo hi most W h (by omega)
 rw [<- hL] at hsc hrs
 have HSC := zaa hsc
 have HRS := zaa hrs
 have HT := zaa (zbc db bv cv m w hdev)
 have hrow : RRow w lv T.pairs := hτ.row
 obtain ⟨t0, _⟩ := zbm hτ.law
 obtain ⟨k0, _⟩ := zar hl
 have hcell : ∀ W, Below w.heap.size w W -> W.cell? ⟨l, 1, none⟩ = some lv /\ W.cell? ⟨l, 3, none⟩ = some (.bool false) /\ W.cell? ⟨p, 10, none⟩ = some (.bool false) /\ RRow W lv T.pairs := fun W hb => by
  have h1 := Blk.below hτ.law hb hτ.law.lt
  have h2 := Blk.below hl hb hl.lt
  exact ⟨zab h1 1 rfl, zab h1 3 rfl, zab h2 10 rfl, hrow.below hb⟩
 have hkeep : ∀ W v, Below w.heap.size w W -> W.ownsRow w.heap.size 68 2 v L.length (zaf L) -> _ := fun W v hbW hv => ztf p B n w.heap.size _ v L xs ys W (Blk.below hl hbW hl.lt) hv (by omega) (zap ha hbW) (zap hb hbW) hne (Nat.le_trans hB hbW.size) hn hbW.size
 have HC := zaa hcell
 have HKP := zaa hkeep
 unfold pkv at *
 clear hτ hl hD hrow hcell hdev ha hb hne hsc hrs hL hkeep
 go_enter Tryz.func186, Tryz.ntmps186
 go_wp2_with (first
  | (go_at_call 178; refine HT.out.mono ?_; rintro e w' ⟨rfl, rfl⟩)
  | (go_at_call 64; (
     refine HSC.out.mono ?_; rintro e w1 ⟨v, rfl, hv1, hb1⟩
     obtain ⟨A, cA, rfl, _, _, hx1⟩ := zad hv1
     clear hx1
     obtain ⟨l1, l3, p10, hrw⟩ := HC.out _ hb1
     have HRR := zaa (HRS.out w1 hrw)
     have HB1 := zaa hb1
     have HV1 := zaa hv1
     clear hb1 hv1 hrw))
  | (go_at_call 30; refine (zcq _).mono ?_; rintro e w2 ⟨rfl, rfl⟩)
  | (go_at_call 179; refine (za6 _ _).mono ?_; rintro e w' ⟨rfl, rfl⟩)
  | (go_at_call 210; (
     refine HRR.out.mono ?_; rintro e w3 ⟨v3, rfl, hr3, hb3⟩
     have hb3' := HB1.out.trans (hb3.mono HB1.out.size)
     obtain ⟨l1', l3', p10', _⟩ := HC.out w3 hb3'
     have hv3 := zap HV1.out hb3
     clear l1 l3 p10
     have HR3 := zaa hr3
     have HV3 := zaa hv3
     have HB3 := zaa hb3'
     clear hb3 hb3' hr3 hv3))
  | (go_at_call 200; (
     refine (zrl w.heap.size _ L w3 HV3.out (by omega)).mono ?_; rintro e w4 ⟨v4, rfl, hr4, hb4⟩
     have hr34 := HR3.out.below hb4
     have hv4 := zap HV3.out hb4
     have hb4' := HB3.out.trans (hb4.mono HB3.out.size)
     have HR4 := zaa hr4
     have HR34 := zaa hr34
     have HV4 := zaa hv4
     have HB4 := zaa hb4'
     clear hr4 hr34 hv4 hb4 hb4'))
  | (go_at_call 211; (
     refine (ztd v4 v3 L w4 HR4.out HR34.out (by omega)).mono ?_; rintro e w5 ⟨rfl, hb5⟩
     have hv5 := zap HV4.out hb5
     have hb5' := HB4.out.trans (hb5.mono HB4.out.size)
     have HK5 := zaa (HKP.out w5 _ hb5' hv5)
     have HV5 := zaa hv5
     have HB5 := zaa hb5'
     clear hv5 hb5 hb5'))
  | (go_at_call 212; (
     refine HK5.out.mono ?_; rintro e w6 ⟨rfl, hk6⟩
     have HK6 := zaa hk6
     clear hk6)))
 all_goals (go_ret; exact ⟨rfl, w5, HB5.out, KeepTo.more HK6.out fun y hy => (zaz HV5.out hy.symm).1⟩)
end
end Go.Proofs.YtemondlgcmpbbaaGreatDoor
