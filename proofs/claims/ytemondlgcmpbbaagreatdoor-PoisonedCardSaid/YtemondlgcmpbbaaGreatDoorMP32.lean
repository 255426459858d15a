/- So Sr Fw: merged. -/
import Derived.Test.YtemondlgcmpbbaaGreatDoorMP31
import Derived.Maps.OwnIn
import Derived.Test.YtemondlgcmpbbaaGreatDoorMP30
import Derived.Test.YtemondlgcmpbbaaGreatDoorMP06
import Derived.Great.BuildSlice
import Derived.Laws.IdiomStrings
namespace Go.Proofs.YtemondlgcmpbbaaGreatDoor
open Go.RowKit Go.Shelf
set_option maxRecDepth 100000
attribute [local go_sem] Oper.semAt_some
def zbw (l : List (Str × Str)) : List Value := l.flatMap fun x => [.string x.1, .string x.2]
theorem zna (l : List (Str × Str)) (x : Str × Str) : zbw (l ++ [x]) = zbw l ++ [.string x.1, .string x.2] := by simp [zbw]
theorem zfs {W W' : World} {row : Option Nat} {y : Nat} {T : TypeId} {cs : Array Value} (h : Blk W y T cs) (hg : W.grownBy W' row) (hr : ∀ r, row = some r -> ∃ o : Obj, W.heap[r]? = some o /\ o.isCells = false) : Blk W' y T cs := by
 have hne : row ≠ some y := fun e => by
  obtain ⟨o, ho, hc⟩ := hr y e
  have hy : W.heap[y]? = some (.cells cs T) := h
  rw [ho] at hy
  cases hy
  cases hc
 exact (hg.block y h.lt (fun e => hne e.symm)).trans h
theorem zfb {W W' : World} {row : Option Nat} {base size n : Nat} {e : TypeId} {v : Value} {xs : List Value} (h : W.ownsRow base e size v n xs) (hg : W.grownBy W' row) (hr : ∀ r, row = some r -> ∃ o : Obj, W.heap[r]? = some o /\ o.isCells = false) : W'.ownsRow base e size v n xs := by
 refine ⟨h.1, ?_⟩
 rcases h.2 with h0 | ⟨g', cap, cur, hv, hb, hgk, hrd⟩
 . exact .inl h0
 . exact .inr ⟨g', cap, cur, hv, hb, zfs (T := e) hgk hg hr, hrd⟩
theorem zhw {W : World} {base size n : Nat} {e : TypeId} {v : Value} {xs : List Value} (h : W.ownsRow base e size v n xs) {p : Addr} (hp : p.block < base) (u : Value) : (W.setCell p u).ownsRow base e size v n xs := by
 refine ⟨h.1, ?_⟩
 rcases h.2 with h0 | ⟨g', cap, cur, hv, hb, hgk, hrd⟩
 . exact .inl h0
 . exact .inr ⟨g', cap, cur, hv, hb, Blk.far (t := e) hgk (fun e => by omega) u, hrd⟩
theorem KeepsOthers.grown {W W' : World} {row : Option Nat} (hg : W.grownBy W' row) (hr : ∀ j o, row = some j -> W.heap[j]? = some o -> o.isCells = true) : KeepsOthers W W' :=
 ⟨hg.size, fun k o hk ho => (hg.block k (Array.getElem?_eq_some_iff.1 hk).1 (fun e => by have := hr k o e.symm hk; rw [ho] at this; cases this)).trans hk⟩
set_option maxHeartbeats 2000000 in
theorem zx5 (t x : Nat) (τ : TxS) (s : DbS) (T : Tree) (ds : List Nat) (lo hi : ByteArray) (most : Int) (hm : 1000 < most) (w : World) (hT : TxAt w t τ) (hD : DbAt w x s) (hx : τ.db = x) (hk : τ.keys = T.keys) (hok : mayC s.poi τ.done false τ.write = 0)
   (hV : TreeV (fun z => z < w.heap.size) w T τ.root ds) (hR : TR T) (hp : T.pairs.length <= 150) (hlt : ∀ e ∈ T.pairs, slt e.1 hi = true) :
   Calls Tryz.prog 64 #[.pointer (some ⟨t, 0, none⟩), .string lo, .string hi, .int .i64 most] w fun e w' => ∃ v, e = .returned (.tuple #[v, .nilIface]) /\ w'.ownsRow w.heap.size 68 2 v (zby T lo).length (zbw (zby T lo)) /\ Below w.heap.size w w' := by
 have hml : ¬ most < 1 := by omega
 refine (callsIn_wide (n := 3)).1 ?_
 refine callsIn_of_wp_marks Tryz.func64 rfl trivial ?_ rfl
 simp only [Tryz.ntmps64, List.size_toArray, List.length_cons, List.length_nil, Nat.reduceAdd, Nat.reduceSub, Array.replicate_succ, Array.replicate_zero, List.push_toArray, List.append_toArray, List.nil_append, List.cons_append]
 gi_wp2_with (refine ⟨trivial, ?_⟩; gi_at_call 102; refine (callsIn_wide.2 (zz4 t lo hi _)).mono ?_; rintro e w' ⟨rfl, rfl⟩)
 obtain ⟨W0, hW0⟩ : ∃ W0, W0 = ((((((w.alloc (.cells #[.int .i64 most] 3)).alloc (.cells #[.slice none 0 0] 39)).alloc (.cells #[.nilIface] 31)).alloc (.cells #[.slice none 0 0] 39)).alloc (.cells #[.pointer (some ⟨t, 0, none⟩)] 29)).alloc (.cells #[.string lo] 9)).alloc (.cells #[.string hi] 9) := ⟨_, rfl⟩
 have hz : W0.heap.size = w.heap.size + 7 := by rw [hW0]; simp only [World.size_alloc]
 have hbel : Below w.heap.size w W0 := by
  rw [hW0]
  exact ((((((((Below.refl w.heap.size w).alloc (by simp) _).alloc (by simp) _).alloc (by simp; omega) _).alloc (by simp; omega) _).alloc (by simp; omega) _).alloc (by simp; omega) _).alloc (by simp; omega) _)
 have hR0 : Blk W0 w.heap.size 3 #[.int .i64 most] := by
  rw [hW0]
  exact ((((((Blk.new w _ _).alloc _).alloc _).alloc _).alloc _).alloc _).alloc _
 have hR1 : Blk W0 (w.heap.size + 1) 39 #[.slice none 0 0] := by
  rw [hW0]
  exact (((((Blk.new2 w _ _ _).alloc _).alloc _).alloc _).alloc _).alloc _
 have hR2 : Blk W0 (w.heap.size + 1 + 1) 31 #[.nilIface] := by
  rw [hW0]
  have := Blk.new2 (w.alloc (.cells #[.int .i64 most] 3)) (.cells #[.slice none 0 0] 39) 31 #[.nilIface]
  rw [World.size_alloc] at this
  exact (((this.alloc _).alloc _).alloc _).alloc _
 have hR3 : Blk W0 (w.heap.size + 1 + 1 + 1) 39 #[.slice none 0 0] := by
  rw [hW0]
  have := Blk.new (((w.alloc (.cells #[.int .i64 most] 3)).alloc (.cells #[.slice none 0 0] 39)).alloc (.cells #[.nilIface] 31)) 39 #[.slice none 0 0]
  simp only [World.size_alloc] at this
  exact ((this.alloc _).alloc _).alloc _
 have hB0 : Blk W0 (w.heap.size + 1 + 1 + 1 + 1) 29 #[.pointer (some ⟨t, 0, none⟩)] := by
  rw [hW0]
  have := Blk.new ((((w.alloc (.cells #[.int .i64 most] 3)).alloc (.cells #[.slice none 0 0] 39)).alloc (.cells #[.nilIface] 31)).alloc (.cells #[.slice none 0 0] 39)) 29 #[.pointer (some ⟨t, 0, none⟩)]
  simp only [World.size_alloc] at this
  exact (this.alloc _).alloc _
 have hB1 : Blk W0 (w.heap.size + 1 + 1 + 1 + 1 + 1) 9 #[.string lo] := by
  rw [hW0]
  have := Blk.new (((((w.alloc (.cells #[.int .i64 most] 3)).alloc (.cells #[.slice none 0 0] 39)).alloc (.cells #[.nilIface] 31)).alloc (.cells #[.slice none 0 0] 39)).alloc (.cells #[.pointer (some ⟨t, 0, none⟩)] 29)) 9 #[.string lo]
  simp only [World.size_alloc] at this
  exact this.alloc _
 have hB2 : Blk W0 (w.heap.size + 1 + 1 + 1 + 1 + 1 + 1) 9 #[.string hi] := by
  rw [hW0]
  have := Blk.new ((((((w.alloc (.cells #[.int .i64 most] 3)).alloc (.cells #[.slice none 0 0] 39)).alloc (.cells #[.nilIface] 31)).alloc (.cells #[.slice none 0 0] 39)).alloc (.cells #[.pointer (some ⟨t, 0, none⟩)] 29)).alloc (.cells #[.string lo] 9)) 9 #[.string hi]
  simp only [World.size_alloc] at this
  exact this
 have hT0 := hT.below hbel hT.lt
 have hD0 := hD.below hbel hD.lt
 have hV0 : TreeV (fun z => z < W0.heap.size) W0 T τ.root ds := hV.below hbel fun z hz' => by omega
 rw [<- hW0]
 refine wpIn_rangeFunc_ownH (α := Str × Str) rfl (by omega) (gf := 140) (lb := #[.pointer (some ⟨w.heap.size + 1 + 1 + 1 + 1, 0, none⟩), .pointer (some ⟨w.heap.size + 1 + 1 + 1 + 1 + 1, 0, none⟩), .pointer (some ⟨w.heap.size + 1 + 1 + 1 + 1 + 1 + 1, 0, none⟩)]) rfl trivial (enters_of Tryz.func140 (by kernel_rfl) rfl)
  (encs := zx4) (Kp := KpY w.heap.size) (S := fun xs => xs = zby T lo) (Sp := fun _ => True) (N := 200) (w0 := W0) ?hseq (fun h k => h.trans k) (fun W l o o' => KpY.put hbel.size W l o o') (Below.refl _ _) (fun _ => rfl)
  (fun pre W => (∃ v, Blk W (w.heap.size + 1 + 1 + 1) 39 #[v] /\ W.ownsRow W0.heap.size 68 2 v pre.length (zbw pre)) /\ Blk W w.heap.size 3 #[.int .i64 most] /\ Blk W (w.heap.size + 1) 39 #[.slice none 0 0] /\ Blk W (w.heap.size + 1 + 1) 31 #[.nilIface] /\ Below w.heap.size w W /\ W0.heap.size <= W.heap.size)
  (fun _ _ _ => False) ?hI (fun _ _ _ _ _ h _ _ => h) ⟨⟨_, hR3, World.ownsRow_nil _ _ _ _⟩, hR0, hR1, hR2, hbel, Nat.le_refl _⟩
  (fun y a' W => ∃ Bx, W0.heap.size <= Bx /\ Blk W Bx 68 #[.string y.1, .string y.2] /\ a' = { tmps := #[.pointer (some ⟨t, 0, none⟩), .string lo, .string hi, .int .i64 most, undef, undef, undef, .pointer (some ⟨w.heap.size, 0, none⟩), .pointer (some ⟨w.heap.size + 1, 0, none⟩), .pointer (some ⟨w.heap.size + 1 + 1, 0, none⟩), .pointer (some ⟨w.heap.size + 1 + 1 + 1, 0, none⟩), .pointer (some ⟨Bx, 0, none⟩), .nilIface, .int .i64 most, .bool false, .pointer (some ⟨t, 0, none⟩), .string lo, .string hi, .func (.func 140) #[] #[.pointer (some ⟨w.heap.size + 1 + 1 + 1 + 1, 0, none⟩), .pointer (some ⟨w.heap.size + 1 + 1 + 1 + 1 + 1, 0, none⟩), .pointer (some ⟨w.heap.size + 1 + 1 + 1 + 1 + 1 + 1, 0, none⟩)], .agg #[.string y.1, .string y.2], .nilIface, undef, undef, undef, undef, undef, undef, undef, undef, undef, undef, undef, undef], defers := [] })
  ?hAx ?hassign ?hbody ?done (fun _ _ _ _ _ _ h _ => h.elim)
 case hseq =>
  intro l J Jx W hW hJ hJx hY h0
  exact callsIn_wide.2 (zwl t x _ _ _ l τ s T ds w.heap.size lo hi J Jx W (hT0.below hW hT0.lt) (hD0.below hW hD0.lt) hx hk hok (hV.below (hbel.trans (hW.mono hbel.size)) fun _ h => h) hR hp hlt (hB0.below hW hB0.lt) (hB1.below hW hB1.lt) (hB2.below hW hB2.lt) (Nat.le_trans hbel.size hW.size) hJ hJx h0 (fun pre y W1 hj hl => YieldAt.any rfl 2 (hY pre y W1 hj hl)))
 case hI =>
  rintro pre W W' row ⟨⟨v, hv, hrow⟩, h1, h2, h3, hB, hsz⟩ hg hr
  have hr' := fun r e => (hr r e).2
  exact ⟨⟨v, zfs hv hg hr', zfb hrow hg hr'⟩, zfs h1 hg hr', zfs h2 hg hr', zfs h3 hg hr', hB.grown hg hB.size fun k e => (by have := (hr k e).1; omega), Nat.le_trans hsz hg.size⟩
 case hAx =>
  rintro y a' u W W' row ⟨Bx, h1, h2, h3⟩ hg hr
  exact ⟨Bx, h1, zfs h2 hg (fun r e => (hr r e).2), h3⟩
 case hassign =>
  rintro l pre y W K ⟨⟨v, hv, hrow⟩, h1, h2, h3, hB, hsz⟩ hK
  have hA := (Below.refl W.heap.size W).alloc (Nat.le_refl _) (.cells #[.string y.1, .string y.2] 68)
  have hKp : KpY w.heap.size W (W.alloc (.cells #[.string y.1, .string y.2] 68)) := ⟨hA.mono hB.size, fun z T cs _ hz => hz.alloc _⟩
  have hI' : (∃ v, Blk (W.alloc (.cells #[.string y.1, .string y.2] 68)) (w.heap.size + 1 + 1 + 1) 39 #[v] /\ (W.alloc (.cells #[.string y.1, .string y.2] 68)).ownsRow W0.heap.size 68 2 v pre.length (zbw pre)) := ⟨v, hv.alloc _, zfb (row := none) hrow (Below.grown hA) (fun r e => by cases e)⟩
  have hX := Blk.new W 68 #[.string y.1, .string y.2]
  unfold zx4
  gi_wp2
  exact hK _ _ ((KeepsOthers.alloc _ _).from _) hKp ⟨hI', h1.alloc _, h2.alloc _, h3.alloc _, hB.trans (hA.mono hB.size), Nat.le_trans hsz hA.size⟩ ⟨_, hsz, hX, rfl⟩
 case hbody =>
  rintro l pre y a' W hl ⟨r, hr⟩ ⟨⟨v, hv, hrow⟩, h1, h2, h3, hB, hsz⟩ ⟨Bx, hBx, bX, rfl⟩ hlt
  obtain ⟨A, c, rfl, _⟩ := zan hrow
  have c10 := zab hv 0 rfl
  have f10 := hv.frozen 0
  have c7 := zab h1 0 rfl
  have x0 := zab bX 0 rfl
  have x1 := zab bX 1 rfl
  have hne : ¬ (pre.length : Int) = most := by omega
  have hne' : ((pre.length : Int) == most) = false := by simpa using hne
  have HRow := zaa hrow
  have HV3 := zaa hv
  have hA := (Below.refl W.heap.size W).alloc (Nat.le_refl _) (.cells #[.string y.1, .string y.2] 68)
  have hrowA : (W.alloc (.cells #[.string y.1, .string y.2] 68)).drew.ownsRow W0.heap.size 68 2 (.slice A pre.length c) pre.length (zbw pre) := zfb (row := none) hrow (Below.grown hA.drew) (fun r e => by cases e)
  have hX := (Blk.new W 68 #[.string y.1, .string y.2]).drew
  obtain ⟨i0, hi0, hz0, hz1, hz2⟩ := info_parts zdh
  have HI0 := zaa hi0
  have HZ0 := zaa hz0
  have HZ1 := zaa hz1
  have HZ2 := zaa hz2
  have HRA := zaa hrowA
  have HX := zaa hX
  have HA := zaa hA
  have hcell : ∀ j u, [Value.string y.1, .string y.2][j]? = some u -> (W.alloc (.cells #[.string y.1, .string y.2] 68)).drew.cell? (Addr.add ⟨W.heap.size, 0, none⟩ j) = some u := fun j u hu => by
   match j, hu with
   | 0, hu => cases hu; exact zab hX 0 rfl
   | 1, hu => cases hu; exact zab hX 1 rfl
  have HC := zaa hcell
  have hb1 : W0.heap.size <= (W.alloc (.cells #[.string y.1, .string y.2] 68)).drew.heap.size := Nat.le_trans hsz hA.drew.size
  have HB1 := zaa hb1
  clear hr hrow hv hA hrowA hX hi0 hz0 hz1 hz2 hcell hb1
  gi_wp2_with (first
   | (gi_at_builtin; go_loud (
      refine wpListIn_append_own_at _ rfl _ _ 39 rfl W0.heap.size 68 i0 _ 2 32 Tryz.underlying39 HI0.out HZ0.out HZ1.out HZ2.out rfl (by decide) (.slice A pre.length c) pre.length _ rfl HRA.out ⟨W.heap.size, 0, none⟩ 1 1 [.string y.1, .string y.2] rfl rfl HC.out (by simp [Value.oneCell']) (by unfold maxLen; omega) (by omega) HB1.out ?_
      intro v' w1 hown' hgr hnil hat
      obtain ⟨A', c', rfl, _⟩ := zan hown'
      have hrow3 : ∀ z, z < W0.heap.size -> some z ≠ Value.ownBlock (.slice A pre.length c) := fun z hz' e => by
       have := (zdv HRow.out e.symm).1
       omega
      have hv1 : Blk w1 (w.heap.size + 1 + 1 + 1) 39 #[.slice A pre.length c] := (hgr.block _ ((HV3.out.alloc _).drew).lt (fun e => hrow3 _ (by omega) e)).trans ((HV3.out.alloc _).drew)
      have c11 := zab hv1 0 rfl
      have f11 := hv1.frozen 0
      have HV1 := zaa hv1
      have HR3 := zaa hrow3
      clear hv1 hrow3
      have HOWN := zaa hown'
      have HGR := zaa hgr
      have HAT := zaa hat
      clear hown' hgr hnil hat)))
  have hWd : KeepsOthers W (W.alloc (.cells #[.string y.1, .string y.2] 68)).drew := (KeepsOthers.alloc _ _).trans (KeepsOthers.drew _)
  have hcells : ∀ (j : Nat) (o : Obj), Value.ownBlock (.slice A pre.length c) = some j -> (W.alloc (.cells #[.string y.1, .string y.2] 68)).drew.heap[j]? = some o -> o.isCells = true /\ ∃ cs, o = .cells cs 68 := by
   intro j o hj ho
   rcases HRA.out.2 with ⟨h0, _⟩ | ⟨g', cap, cur, e1, e2, e3, e4⟩
   . rw [h0] at hj; simp [Value.ownBlock] at hj
   . rw [e1] at hj
     have : j = g' := by simpa [Value.ownBlock] using hj.symm
     subst this
     rw [show (W.alloc (.cells #[.string y.1, .string y.2] 68)).drew.heap[j]? = _ from e3] at ho
     cases ho
     exact ⟨rfl, _, rfl⟩
  have hgr := HGR.out
  have hrow_ty : ∀ (j : Nat) T cs, Value.ownBlock (.slice A pre.length c) = some j -> Blk (W.alloc (.cells #[.string y.1, .string y.2] 68)) j T cs -> T = 68 := fun j T cs e hb => by
   obtain ⟨_, cs', e'⟩ := hcells j _ e hb
   cases e'
   rfl
  have hBA : Below w.heap.size W (W.alloc (.cells #[.string y.1, .string y.2] 68)) := HA.out.mono hB.size
  have hbig : ∀ j, Value.ownBlock (.slice A pre.length c) = some j -> w.heap.size <= j := fun j e => by
   have := (zdv HRow.out e).1
   omega
  have hB1 : Below w.heap.size W w1 := hBA.grown hgr (Nat.le_trans hB.size hBA.size) fun k e => hbig k e
  have hB2 : Below w.heap.size W (w1.setCell ⟨w.heap.size + 1 + 1 + 1, 0, none⟩ (.slice A' (pre.length + 1) c')) := hB1.setCell (p := ⟨w.heap.size + 1 + 1 + 1, 0, none⟩) (by simp; omega) _
  have hfar : ∀ z T cs, z < W0.heap.size -> z ≠ w.heap.size + 1 + 1 + 1 -> Blk W z T cs -> Blk (w1.setCell ⟨w.heap.size + 1 + 1 + 1, 0, none⟩ (.slice A' (pre.length + 1) c')) z T cs := fun z T cs hz hne hb => by
   have h4 := hb.alloc (.cells #[.string y.1, .string y.2] 68)
   have h5 : Blk w1 z T cs := (hgr.block z h4.lt (fun e => HR3.out z hz e)).trans h4
   exact h5.far (p := ⟨w.heap.size + 1 + 1 + 1, 0, none⟩) hne _
  refine ⟨KeepsOthers.from (((KeepsOthers.alloc _ _).trans (KeepsOthers.grown hgr fun j o e ho => (hcells j o e ho).1)).trans (KeepsOthers.setCell _ _ _)) _, ⟨hB2, fun z T cs hT hz => ?_⟩, ⟨_, (HV1.out.set_ 0 _), ?_⟩, hfar _ _ _ (by omega) (by omega) h1, hfar _ _ _ (by omega) (by omega) h2, hfar _ _ _ (by omega) (by omega) h3, hB.trans hB2, Nat.le_trans hsz hB2.size⟩
  . have h4 := hz.alloc (.cells #[.string y.1, .string y.2] 68)
    have h5 : Blk w1 z T cs := (hgr.block z h4.lt (fun e => by
     have := hrow_ty z T cs e.symm h4
     rcases hT with rfl | rfl
     . exact absurd this (by decide)
     . exact absurd this (by decide))).trans h4
    refine h5.far (p := ⟨w.heap.size + 1 + 1 + 1, 0, none⟩) (fun e => ?_) _
    have e' : z = w.heap.size + 1 + 1 + 1 := e
    subst e'
    have := Blk.ne_ h5 HV1.out
    rcases hT with rfl | rfl
    . exact this (by decide) rfl
    . exact this (by decide) rfl
  . have := zhw HOWN.out (p := ⟨w.heap.size + 1 + 1 + 1, 0, none⟩) (by show w.heap.size + 1 + 1 + 1 < W0.heap.size; omega) (.slice A' (pre.length + 1) c')
    rw [zna, List.length_append]
    exact this
 case done =>
  rintro D ys W hDs rfl ⟨⟨v, hv, hrow⟩, h1, h2, h3, hB, hsz⟩ hK
  have c1 := zab hv 0 rfl
  have c2 := zab h2 0 rfl
  have c3 := zab h3 0 rfl
  have f1 : W.frozen? ⟨w.heap.size + 1, 0, none⟩ = false := h2.frozen 0
  have f2 : W.frozen? ⟨w.heap.size + 1 + 1, 0, none⟩ = false := h3.frozen 0
  obtain ⟨A, c, rfl, _⟩ := zan hrow
  have HROW := zaa hrow
  clear hrow
  gi_wp2
  obtain ⟨W2, hW2⟩ : ∃ W2, W2 = (W.setCell ⟨w.heap.size + 1, 0, none⟩ (.slice A (zby T lo).length c)).setCell ⟨w.heap.size + 1 + 1, 0, none⟩ .nilIface := ⟨_, rfl⟩
  have hK2 : W2.heap[D]? = some (.deferred (some [])) := by rw [hW2]; exact ((KeepsOthers.setCell _ _ _).trans (KeepsOthers.setCell _ _ _)).same D _ hK rfl
  have hq1 : Blk W2 (w.heap.size + 1) 39 #[.slice A (zby T lo).length c] := by rw [hW2]; exact (h2.set_ 0 _).far (by simp) _
  have hq2 : Blk W2 (w.heap.size + 1 + 1) 31 #[.nilIface] := by rw [hW2]; exact (h3.far (by simp) _).set_ 0 _
  have hb2 : Below w.heap.size w W2 := by
   rw [hW2]
   exact (hB.setCell (p := ⟨w.heap.size + 1, 0, none⟩) (by simp) _).setCell (p := ⟨w.heap.size + 1 + 1, 0, none⟩) (by simp; omega) _
  have hrow2 : W2.ownsRow W0.heap.size 68 2 (.slice A (zby T lo).length c) (zby T lo).length (zbw (zby T lo)) := by
   rw [hW2]
   exact zhw (zhw HROW.out (p := ⟨w.heap.size + 1, 0, none⟩) (by show w.heap.size + 1 < W0.heap.size; omega) _) (p := ⟨w.heap.size + 1 + 1, 0, none⟩) (by show w.heap.size + 1 + 1 < W0.heap.size; omega) _
  rw [<- hW2]
  refine ⟨by simp, .inl ⟨_, _, rfl, run_takeDeferred hK2, ?_⟩⟩
  have g := grownBy_putObj' W2 D (.deferred none)
  have d1 := cell_kept (zab hq1 0 rfl) g (fun r e => by cases e; exact ⟨_, hK2, rfl⟩)
  have d2 := cell_kept (zab hq2 0 rfl) g (fun r e => by cases e; exact ⟨_, hK2, rfl⟩)
  refine ⟨.tuple #[.slice A (zby T lo).length c, .nilIface], by simp [results, Tryz.results64, go_sem, d1, d2], _, rfl, ?_, ?_⟩
  . have h4 := zfb hrow2 g (fun r e => by cases e; exact ⟨_, hK2, rfl⟩)
    refine ⟨h4.1, ?_⟩
    rcases h4.2 with h0 | ⟨g', cap, cur, e1, e2, e3⟩
    . exact .inl h0
    . exact .inr ⟨g', cap, cur, e1, Nat.le_trans hbel.size e2, e3⟩
  . exact ⟨g.os.trans hb2.os, g.tape.trans hb2.tape, g.output.trans hb2.output, Nat.le_trans hb2.size g.size, fun y hy => (g.block y (Nat.lt_of_lt_of_le hy hb2.size) (fun e => by injection e; omega)).trans (hb2.block y hy)⟩
end Go.Proofs.YtemondlgcmpbbaaGreatDoor
namespace Go.Proofs.YtemondlgcmpbbaaGreatDoor
open Go.RowKit
set_option maxRecDepth 100000
def KT (X : TypeId) : Prop := X = 68 \/ X = 3
theorem KT.ne {X T : TypeId} (hX : KT X) (h1 : 68 ≠ T) (h2 : 3 ≠ T) : X ≠ T := hX.elim (fun e => e ▸ h1) fun e => e ▸ h2
def KpP (N : Nat) (w w' : World) : Prop := Below N w w' /\ ∀ X, KT X -> ∀ y cs, Blk w y X cs -> Blk w' y X cs
theorem KpP.refl (N : Nat) (w : World) : KpP N w w := ⟨Below.refl _ _, fun _ _ _ _ h => h⟩
theorem KpP.trans {N : Nat} {a b c : World} (h : KpP N a b) (k : KpP N b c) : KpP N a c := ⟨h.1.trans k.1, fun X hX y cs hy => k.2 X hX y cs (h.2 X hX y cs hy)⟩
theorem KpP.of_below {N : Nat} {w w' : World} (h : Below w.heap.size w w') (hN : N <= w.heap.size) : KpP N w w' := ⟨h.mono hN, fun _ _ _ _ hy => hy.below h hy.lt⟩
theorem KpP.of_only {N : Nat} {w w' : World} {fp : Nat -> Prop} (ho : Only fp w w') (hN : N <= w.heap.size) (hB : ∀ y, fp y -> N <= y) (hP : ∀ X, KT X -> ∀ y cs, Blk w y X cs -> ¬ fp y) : KpP N w w' := ⟨ho.to_below hN hB, fun X hX y cs hy => hy.only ho (hP X hX y cs hy)⟩
structure Rdr where
 t : Nat
 T : Tree
 rp : Value
structure StoreR (N : Nat) (w : World) (K b n x G : Nat) (wr : Value) (T : Tree) (r : SR) (rs : List Rdr) : Prop where
 disk : Dk w K b r.g r.base n (.slice none 0 0) r.m r.bytes []
 calm : r.m.calm
 dkb : Blk w r.dk 151 (#[dev b] ++ r.hd.cells)
 slot : r.hd.slot < 2
 gen : r.hd.gen <= G
 db : DbAt w x ⟨r.dk, r.rp, T.keys, wr, r.rd, false⟩
 rd : RdAt w r.rd (rs.map (·.t))
 tree : TreeV (fun z => z < w.heap.size) w T r.rp []
 nb : N <= b
 ng : N <= r.g
 ndk : N <= r.dk
 nx : N <= x
 nrd : N <= r.rd
 rds : ∀ ρ ∈ rs, TxAt w ρ.t ⟨x, ρ.rp, ρ.T.keys, false, false, 0⟩ /\ TreeV (fun z => z < w.heap.size) w ρ.T ρ.rp [] /\ N <= ρ.t
 nodup : (rs.map (·.t)).Nodup
section
variable {N K b n x G : Nat} {wr : Value} {T : Tree} {r : SR} {rs : List Rdr} {w w' : World}
theorem Store.toR (h : Store N w K b n x G wr T r) : StoreR N w K b n x G wr T r [] :=
 ⟨h.disk, h.calm, h.dkb, h.slot, h.gen, h.db, h.rd, h.tree, h.nb, h.ng, h.ndk, h.nx, h.nrd, (fun _ h => by cases h), List.nodup_nil⟩
theorem StoreR.size (h : StoreR N w K b n x G wr T r rs) : N <= w.heap.size := Nat.le_trans h.nx (Nat.le_of_lt (Blk.lt h.db))
theorem StoreR.more {K' : Nat} (h : StoreR N w K b n x G wr T r rs) (hK : K <= K') : StoreR N w K' b n x G wr T r rs :=
 ⟨h.disk.more hK, h.calm, h.dkb, h.slot, h.gen, h.db, h.rd, h.tree, h.nb, h.ng, h.ndk, h.nx, h.nrd, h.rds, h.nodup⟩
theorem StoreR.txb (h : StoreR N w K b n x G wr T r rs) : ∀ k ∈ rs.map (·.t), TxB w k := fun k hk => by
 obtain ⟨ρ, hρ, rfl⟩ := List.mem_map.1 hk
 exact ⟨_, (h.rds ρ hρ).1⟩
theorem StoreR.only {fp : Nat -> Prop} (h : StoreR N w K b n x G wr T r rs) (ho : Only fp w w') {wr' : Value} (hd : DbAt w' x ⟨r.dk, r.rp, T.keys, wr', r.rd, false⟩)
   (h1 : ∀ y T' cs, Blk w y T' cs -> T' ≠ 94 -> T' ≠ 91 -> ¬ fp y) {rs' : List Rdr} (h2 : RdAt w' r.rd (rs'.map (·.t))) (h3 : ∀ ρ ∈ rs', TxAt w' ρ.t ⟨x, ρ.rp, ρ.T.keys, false, false, 0⟩ /\ TreeV (fun z => z < w'.heap.size) w' ρ.T ρ.rp [] /\ N <= ρ.t) (h4 : (rs'.map (·.t)).Nodup) : StoreR N w' K b n x G wr' T r rs' := by
 refine ⟨h.disk.only ho (fun y hy e => ?_), h.calm, h.dkb.only ho (h1 _ _ _ h.dkb (by decide) (by decide)), h.slot, h.gen, hd, h2, ?_, h.nb, h.ng, h.ndk, h.nx, h.nrd, h3, h4⟩
 . rcases hy with rfl | rfl | hy
   . exact h1 _ _ _ h.disk.at_ (by decide) (by decide) e
   . exact h1 _ _ _ h.disk.blk (by decide) (by decide) e
   . simp [Value.ownBlock] at hy
 . exact (h.tree.only ho fun z T' cs _ hz hT => h1 _ _ _ hz (fun e => zbl (X := 94) (by decide) (by decide) (by decide) (e ▸ hT)) (fun e => zbl (X := 91) (by decide) (by decide) (by decide) (e ▸ hT))).more fun z hz => Nat.lt_of_lt_of_le hz ho.size
theorem TreeV.txdb {fp : Nat -> Prop} {T : Tree} {rp : Value} {ds : List Nat} (h : TreeV (fun z => z < w.heap.size) w T rp ds) (ho : Only fp w w') (h1 : ∀ y T' cs, Blk w y T' cs -> T' ≠ 94 -> T' ≠ 91 -> ¬ fp y) : TreeV (fun z => z < w'.heap.size) w' T rp ds :=
 (h.only ho fun z T' cs _ hz hT => h1 _ _ _ hz (fun e => zbl (X := 94) (by decide) (by decide) (by decide) (e ▸ hT)) (fun e => zbl (X := 91) (by decide) (by decide) (by decide) (e ▸ hT))).more fun z hz => Nat.lt_of_lt_of_le hz ho.size
theorem StoreR.below (h : StoreR N w K b n x G wr T r rs) (hb : Below w.heap.size w w') : StoreR N w' K b n x G wr T r rs :=
 h.only (fp := fun _ => False) (Only.of_below hb) (Blk.below h.db hb (Blk.lt h.db)) (fun _ _ _ _ _ _ => id) (h.rd.only (Only.of_below (fp := fun _ => False) hb) id)
   (fun ρ hρ => by obtain ⟨a, c, d⟩ := h.rds ρ hρ; exact ⟨Blk.below a hb (Blk.lt a), c.txdb (fp := fun _ => False) (Only.of_below hb) (fun _ _ _ _ _ _ => id), d⟩) h.nodup
theorem Trans.only {t S : Nat} {T1 : Tree} {rp : Value} {ds : List Nat} {stamp : Int} {fp : Nat -> Prop} (h : Trans N w t x S T1 rp ds stamp) (ho : Only fp w w') (ht : ¬ fp t) (h1 : ∀ y T' cs, Blk w y T' cs -> T' ≠ 94 -> T' ≠ 91 -> ¬ fp y) : Trans N w' t x S T1 rp ds stamp :=
 ⟨Blk.only h.tx ho ht, h.tree.txdb ho h1, h.nd, h.nds, h.nt, h.s0, h.s1⟩
theorem zqq {ρ : Rdr} {t : Nat} {τ : TxS} (hρ : TxAt w ρ.t ⟨x, ρ.rp, ρ.T.keys, false, false, 0⟩) (ht : TxAt w t τ) (hw : τ.write = true) : ρ.t ≠ t := fun e => by
 have := Blk.same hρ (e ▸ ht)
 simp [hw] at this
theorem StoreR.step (h : StoreR N w K b n x G wr T r rs) {t : Nat} (ht : ∀ y T' cs, Blk w y T' cs -> T' ≠ 94 -> y ≠ t) (hrt : r.rd ≠ t) (hrs : ∀ ρ ∈ rs, ρ.t ≠ t) (ho : Only (fun y => y = t \/ y = x) w w') {wr' : Value} (hd : DbAt w' x ⟨r.dk, r.rp, T.keys, wr', r.rd, false⟩) : StoreR N w' K b n x G wr' T r rs := by
 have hno : ∀ y T' cs, Blk w y T' cs -> T' ≠ 94 -> T' ≠ 91 -> ¬ (y = t \/ y = x) := fun y T' cs hy h1 h2 e => by
  rcases e with e | e
  . exact ht _ _ _ hy h1 e
  . exact Blk.ne_ hy h.db h2 e
 refine h.only ho hd hno (h.rd.only ho fun e => e.elim hrt (h.rd.ne_blk h.db)) (fun ρ hρ => ?_) h.nodup
 obtain ⟨a, c, d⟩ := h.rds ρ hρ
 exact ⟨Blk.only a ho (fun e => e.elim (hrs ρ hρ) (Blk.ne_ a h.db (by decide))), c.txdb ho hno, d⟩
theorem StoreR.pair_ne {t : Nat} {τ : TxS} (h : StoreR N w K b n x G wr T r rs) (ht : TxAt w t τ) : ∀ X, KT X -> ∀ y cs, Blk w y X cs -> ¬ (y = t \/ y = x) := fun X hX y cs hy e => by
 rcases e with e | e
 . exact Blk.ne_ hy ht (hX.ne (by decide) (by decide)) e
 . exact Blk.ne_ hy h.db (hX.ne (by decide) (by decide)) e
theorem zx6 (h : StoreR N w K b n x G (.pointer none) T r rs) :
   Calls Tryz.prog 22 #[.pointer (some ⟨x, 0, none⟩), .bool true] w fun e w' => ∃ t, e = .returned (.tuple #[.pointer (some ⟨t, 0, none⟩), .nilIface]) /\ StoreR N w' K b n x G (.pointer (some ⟨t, 0, none⟩)) T r rs /\ Trans N w' t x 0 T r.rp [] 0 /\ KpP N w w' := by
 refine (zz3 x _ w h.db rfl rfl).mono ?_
 rintro e w' ⟨t, rfl, hT, hD, ht, ho⟩
 have hst : StoreR N w' K b n x G (.pointer (some ⟨t, 0, none⟩)) T r rs := h.step (t := t) (fun y T' cs hy _ => by have := hy.lt; omega) (by have := h.rd.lt; omega) (fun ρ hρ => by have := Blk.lt (h.rds ρ hρ).1; omega) (ho.mono fun _ _ h => .inr h) hD
 exact ⟨t, rfl, hst, ⟨hT, hst.tree, List.nodup_nil, (fun y hy => by cases hy), Nat.le_trans h.size ht, Int.le_refl _, Int.le_refl _⟩, KpP.of_only ho h.size (fun y e => e ▸ h.nx) fun X hX y cs hy => Blk.ne_ hy h.db (hX.ne (by decide) (by decide))⟩
theorem zwm {t S : Nat} {T1 : Tree} {rp : Value} {ds : List Nat} {stamp : Int} (k v : Str) (h : StoreR N w K b n x G (.pointer (some ⟨t, 0, none⟩)) T r rs) (ht : Trans N w t x S T1 rp ds stamp) (hR : TR T1) (hp : T1.pairs.length <= 150) (h1 : zb1 k) (h2 : okVal v) (hS : S <= 1000000000) (hroom : (T1.get k).isSome = true \/ (T1.keys : Int) < zgi n) :
   Calls Tryz.prog 24 #[.pointer (some ⟨t, 0, none⟩), .string k, .string v] w fun e w' => e = .returned .nilIface /\ StoreR N w' K b n x G (.pointer (some ⟨t, 0, none⟩)) T r rs /\ (∃ rp' ds', Trans N w' t x (S + 1) (T1.put k v) rp' ds' (stamp + 1)) /\ KpP N w w' := by
 have hm : zf9 false false true true k = 0 := by
  have := h1.1; have := h1.2
  show (if k.size < 1 \/ 8 < k.size then 1 else 0) = 0
  rw [if_neg (by omega)]
 refine (zz2 t x rp T1 ds true false stamp _ k v w ht.tx h.db ht.tree ht.nd hR hp h1 h2 ht.s0 (by have := ht.s1; omega) hm b n _ r.hd (some ⟨r.g, 0, none⟩) (.slice none 0 0) r.m h.dkb h.disk.at_ h.disk.fits hroom).mono ?_
 rintro e w' ⟨rfl, hD, ⟨rp', ds', a1, a2, a3, a4⟩, ho⟩
 refine ⟨rfl, h.step (t := t) (fun y T' cs hy e => Blk.ne_ hy ht.tx e) (h.rd.ne_blk ht.tx) (fun ρ hρ => zqq (h.rds ρ hρ).1 ht.tx rfl) ho hD, ⟨rp', ds', a1, a2.up_, a3, fun y hy => ?_, ht.nt, by have := ht.s0; omega, by have := ht.s1; omega⟩, KpP.of_only ho h.size (fun y e => ?_) (h.pair_ne ht.tx)⟩
 . rcases a4 y hy with h' | h'
   . exact ht.nds y h'
   . exact Nat.le_trans h.size h'
 . rcases e with rfl | rfl
   . exact ht.nt
   . exact h.nx
theorem zwn {t S : Nat} {T1 : Tree} {rp : Value} {ds : List Nat} {stamp : Int} (k : Str) (h : StoreR N w K b n x G (.pointer (some ⟨t, 0, none⟩)) T r rs) (ht : Trans N w t x S T1 rp ds stamp) (hR : TR T1) (hp : T1.pairs.length <= 150) (h1 : zb1 k) (hS : S <= 1000000000) :
   Calls Tryz.prog 23 #[.pointer (some ⟨t, 0, none⟩), .string k] w fun e w' => e = .returned .nilIface /\ StoreR N w' K b n x G (.pointer (some ⟨t, 0, none⟩)) T r rs /\ (∃ rp' ds', Trans N w' t x (S + 1) (T1.delete k) rp' ds' (stamp + 1)) /\ KpP N w w' := by
 have hm : zf9 false false true true k = 0 := by
  have := h1.1; have := h1.2
  show (if k.size < 1 \/ 8 < k.size then 1 else 0) = 0
  rw [if_neg (by omega)]
 refine (zr1 t x rp T1 ds true false stamp _ k w ht.tx h.db ht.tree ht.nd hR hp (by have := h1.2; omega) ht.s0 (by have := ht.s1; omega)).mono ?_
 rintro e w' ⟨v, rfl, hv, hD, -, hc, ho⟩
 obtain ⟨rp', ds', a1, a2, a3, a4⟩ := hc hm
 obtain rfl : v = .nilIface := by
  rcases hv with h | h
  . exact h.2
  . exact absurd hm h.1
 refine ⟨rfl, h.step (t := t) (fun y T' cs hy e => Blk.ne_ hy ht.tx e) (h.rd.ne_blk ht.tx) (fun ρ hρ => zqq (h.rds ρ hρ).1 ht.tx rfl) ho hD, ⟨rp', ds', a1, a2.up_, a3, fun y hy => ?_, ht.nt, by have := ht.s0; omega, by have := ht.s1; omega⟩, KpP.of_only ho h.size (fun y e => ?_) (h.pair_ne ht.tx)⟩
 . rcases a4 y hy with h' | h'
   . exact ht.nds y h'
   . exact Nat.le_trans h.size h'
 . rcases e with rfl | rfl
   . exact ht.nt
   . exact h.nx
theorem zwo (h : StoreR N w K b n x G wr T r rs) (h4 : rs.length < 4) :
   Calls Tryz.prog 22 #[.pointer (some ⟨x, 0, none⟩), .bool false] w fun e w' => ∃ t, e = .returned (.tuple #[.pointer (some ⟨t, 0, none⟩), .nilIface]) /\ StoreR N w' K b n x G wr T r (rs ++ [⟨t, T, r.rp⟩]) /\ w.heap.size <= t /\ (∀ t' S T1 rp ds st, Trans N w t' x S T1 rp ds st -> Trans N w' t' x S T1 rp ds st) /\ KpP N w w' := by
 refine (znt x _ (rs.map (·.t)) w h.db rfl h.rd h.txb (by simpa using h4)).mono ?_
 rintro e w' ⟨t, rfl, hT, hD, hR, ht, ho⟩
 have hno : ∀ y T' cs, Blk w y T' cs -> T' ≠ 91 -> ¬ (y = x \/ y = r.rd) := fun y T' cs hy h2 e => by
  rcases e with e | e
  . exact Blk.ne_ hy h.db h2 e
  . exact h.rd.ne_blk hy e.symm
 have htree := h.tree.txdb ho fun y T' cs hy _ h2 => hno y T' cs hy h2
 refine ⟨t, rfl, h.only ho hD (fun y T' cs hy _ h2 => hno y T' cs hy h2) (by rw [List.map_append]; exact hR) (fun ρ hρ => ?_) ?_, ht, fun t' S T1 rp ds st hh => hh.only ho (hno _ _ _ hh.tx (by decide)) fun y T' cs hy _ h2 => hno y T' cs hy h2, KpP.of_only ho h.size (fun y e => ?_) fun X hX y cs hy => hno y _ cs hy (hX.ne (by decide) (by decide))⟩
 . rcases List.mem_append.1 hρ with hρ | hρ
   . obtain ⟨a, c, d⟩ := h.rds ρ hρ
     exact ⟨Blk.only a ho (hno _ _ _ a (by decide)), c.txdb ho fun y T' cs hy _ h2 => hno y T' cs hy h2, d⟩
   . rw [List.mem_singleton.1 hρ]
     exact ⟨hT, htree, Nat.le_trans h.size ht⟩
 . rw [List.map_append]
   refine List.nodup_append.2 ⟨h.nodup, by simp, fun a ha c hc e => ?_⟩
   obtain ⟨ρ, hρ, rfl⟩ := List.mem_map.1 ha
   have hl := Blk.lt (h.rds ρ hρ).1
   simp only [List.map_cons, List.map_nil, List.mem_singleton] at hc
   omega
 . rcases e with rfl | rfl
   . exact h.nx
   . exact h.nrd
theorem zwp {ρ : Rdr} (h : StoreR N w K b n x G wr T r (rs ++ [ρ])) :
   Calls Tryz.prog 27 #[.pointer (some ⟨ρ.t, 0, none⟩)] w fun e w' => e = .returned .nilIface /\ StoreR N w' K b n x G wr T r rs /\ TxAt w' ρ.t ⟨x, ρ.rp, ρ.T.keys, false, true, 0⟩ /\ (∀ t' S T1 rp ds st, Trans N w t' x S T1 rp ds st -> Trans N w' t' x S T1 rp ds st) /\ KpP N w w' := by
 obtain ⟨hT, htr, hnt⟩ := h.rds ρ (by simp)
 refine (zv3 ρ.t x _ _ ((rs ++ [ρ]).map (·.t)) w hT h.db rfl h.rd h.txb rfl).mono ?_
 rintro e w' ⟨rfl, hT', hD, hR, ho⟩
 have hno : ∀ y T' cs, Blk w y T' cs -> T' ≠ 94 -> T' ≠ 91 -> ¬ (y = ρ.t \/ y = x \/ y = r.rd) := fun y T' cs hy h1 h2 e => by
  rcases e with e | e | e
  . exact Blk.ne_ hy hT h1 e
  . exact Blk.ne_ hy h.db h2 e
  . exact h.rd.ne_blk hy e.symm
 have hnot : ∀ y τ, TxAt w y τ -> y ≠ ρ.t -> ¬ (y = ρ.t \/ y = x \/ y = r.rd) := fun y τ hy hne e => by
  rcases e with e | e | e
  . exact hne e
  . exact Blk.ne_ hy h.db (by decide) e
  . exact h.rd.ne_blk hy e.symm
 have hnd := h.nodup
 rw [List.map_append] at hnd
 have hnd' := List.nodup_append.1 hnd
 have hnr : ∀ σ ∈ rs, σ.t ≠ ρ.t := fun σ hσ e => hnd'.2.2 σ.t (List.mem_map_of_mem hσ) ρ.t (by simp) e
 have her : ((rs ++ [ρ]).map (·.t)).erase ρ.t = rs.map (·.t) := by
  rw [List.map_append, List.erase_append_right _ (fun hm => by obtain ⟨σ, hσ, e⟩ := List.mem_map.1 hm; exact hnr σ hσ e)]
  simp
 rw [her] at hR
 refine ⟨rfl, h.only ho hD hno hR (fun σ hσ => ?_) hnd'.1, hT', fun t' S T1 rp ds st hh => hh.only ho (hnot _ _ hh.tx (zqq hT hh.tx rfl).symm) hno, KpP.of_only ho h.size (fun y e => ?_) fun X hX y cs hy => hno y _ cs hy (hX.ne (by decide) (by decide)) (hX.ne (by decide) (by decide))⟩
 . obtain ⟨a, c, d⟩ := h.rds σ (by simp [hσ])
   exact ⟨Blk.only a ho (hnot _ _ a (hnr σ hσ)), c.txdb ho hno, d⟩
 . rcases e with rfl | rfl | rfl
   . exact hnt
   . exact h.nx
   . exact h.nrd
end
theorem zg3 (c : Int) (n : Nat) (w : World) (hc : I64 c) (hn : 0 < n) (hn2 : n <= 2147483648) :
   Calls Tryz.prog 18 #[.int .i64 c, .int .i64 n] w fun e w' => e = .returned (.int .i64 (zdl c n)) /\ w = w' := by
 obtain ⟨h1, h2⟩ := hc
 have hn0 : ¬ (n : Int) = 0 := by omega
 have hn00 : ¬ n = 0 := by omega
 by_cases h0 : c < 0
 . obtain ⟨q, hq⟩ : ∃ q : Nat, c = -(q : Int) - 1 := ⟨(-(c + 1)).toNat, by omega⟩
   have hp : zdl c n = q % n := by unfold zdl; rw [if_pos h0, show (-(c + 1)).toNat = q by omega]
   rw [hp]
   subst hq
   have w1 : IntKind.i64.wrap (-(q : Int) - 1 + 1) = -(q : Int) := by rw [IntKind.wrap_i64]; omega
   have w2 : IntKind.i64.wrap (-(-(q : Int))) = (q : Int) := by rw [IntKind.wrap_i64]; omega
   have w2' : IntKind.i64.wrap (q : Int) = (q : Int) := by rw [IntKind.wrap_i64]; omega
   have hm : Int.tmod (q : Int) n = (q : Int) % n := Int.tmod_eq_emod_of_nonneg (by omega)
   have HPP := zaa hp
   clear hp
   go_enter Tryz.func18, Tryz.ntmps18
   go_wp2
   go_ret
   exact ⟨by simp, rfl⟩
 . obtain ⟨q, hq⟩ : ∃ q : Nat, c = (q : Int) := ⟨c.toNat, by omega⟩
   have hp : zdl c n = q % n := by unfold zdl; rw [if_neg h0, hq]; rfl
   rw [hp]
   subst hq
   have hm : Int.tmod (q : Int) n = (q : Int) % n := Int.tmod_eq_emod_of_nonneg (by omega)
   have HPP := zaa hp
   clear hp
   go_enter Tryz.func18, Tryz.ntmps18
   go_wp2
   go_ret
   exact ⟨by simp, rfl⟩
def mixedN (n : Nat) : Nat := (n * 1103515245 + 12345) % 2147483648
theorem zn1 (n : Nat) : mixedN n < 2147483648 := Nat.mod_lt _ (by omega)
theorem zx7 (n : Nat) (w : World) (hn : n < 2147483648) :
   Calls Tryz.prog 20 #[.int .i64 n] w fun e w' => e = .returned (.int .i64 (mixedN n)) /\ w = w' := by
 have w1 : IntKind.i64.wrap ((n : Int) * 1103515245) = (n : Int) * 1103515245 := by rw [IntKind.wrap_i64]; omega
 have w2 : IntKind.i64.wrap ((n : Int) * 1103515245 + 12345) = (n : Int) * 1103515245 + 12345 := by rw [IntKind.wrap_i64]; omega
 have w3 : ((n : Int) * 1103515245 + 12345).tmod 2147483648 = (mixedN n : Nat) := by
  rw [Int.tmod_eq_emod_of_nonneg (by omega)]; unfold mixedN; omega
 have w4 : IntKind.i64.wrap (mixedN n : Nat) = (mixedN n : Nat) := by have := zn1 n; rw [IntKind.wrap_i64]; omega
 go_enter Tryz.func20, Tryz.ntmps20
 go_wp2
 go_ret
 exact ⟨rfl, rfl⟩
def zur (i : Nat) : Str := ⟨#[107, 101, 121, 48, 48, 48, UInt8.ofNat (97 + i % 26), UInt8.ofNat (97 + i / 26)]⟩
end Go.Proofs.YtemondlgcmpbbaaGreatDoor
