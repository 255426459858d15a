/- Walks: Scan over a tree. -/
import Derived.Test.YtemondlgcmpbbaaGreatDoorMH19
import Derived.Maps.OwnIn
namespace Go.Proofs.YtemondlgcmpbbaaGreatDoor
open Go.RowKit Go.Shelf

attribute [local go_sem] Oper.semAt_some

def pairCells (l : List (Str × Str)) : List Value := l.flatMap fun x => [.string x.1, .string x.2]
theorem pairCells_snoc (l : List (Str × Str)) (x : Str × Str) : pairCells (l ++ [x]) = pairCells l ++ [.string x.1, .string x.2] := by simp [pairCells]
theorem blk_kept {W W' : World} {row : Option Nat} {y : Nat} {T : TypeId} {cs : Array Value} (h : Blk W y T cs) (hg : W.grownBy W' row) (hr : ∀ r, row = some r → ∃ o : Obj, W.heap[r]? = some o ∧ o.isCells = false) : Blk W' y T cs := by
  have hne : row ≠ some y := fun e => by
    obtain ⟨o, ho, hc⟩ := hr y e
    have hy : W.heap[y]? = some (.cells cs T) := h
    rw [ho] at hy
    cases hy
    cases hc
  exact (hg.block y h.lt (fun e => hne e.symm)).trans h
theorem ownsRow_kept {W W' : World} {row : Option Nat} {base size n : Nat} {e : TypeId} {v : Value} {xs : List Value} (h : W.ownsRow base e size v n xs) (hg : W.grownBy W' row) (hr : ∀ r, row = some r → ∃ o : Obj, W.heap[r]? = some o ∧ o.isCells = false) : W'.ownsRow base e size v n xs := by
  refine ⟨h.1, ?_⟩
  rcases h.2 with h0 | ⟨g', cap, cur, hv, hb, hgk, hrd⟩
  · exact .inl h0
  · exact .inr ⟨g', cap, cur, hv, hb, blk_kept (T := e) hgk hg hr, hrd⟩

theorem ownsRow_far {W : World} {base size n : Nat} {e : TypeId} {v : Value} {xs : List Value} (h : W.ownsRow base e size v n xs) {p : Addr} (hp : p.block < base) (u : Value) : (W.setCell p u).ownsRow base e size v n xs := by
  refine ⟨h.1, ?_⟩
  rcases h.2 with h0 | ⟨g', cap, cur, hv, hb, hgk, hrd⟩
  · exact .inl h0
  · exact .inr ⟨g', cap, cur, hv, hb, Blk.far (t := e) hgk (fun e => by omega) u, hrd⟩
theorem KeepsOthers.grown {W W' : World} {row : Option Nat} (hg : W.grownBy W' row) (hr : ∀ j o, row = some j → W.heap[j]? = some o → o.isCells = true) : KeepsOthers W W' :=
  ⟨hg.size, fun k o hk ho => (hg.block k (Array.getElem?_eq_some_iff.1 hk).1 (fun e => by have := hr k o e.symm hk; rw [ho] at this; cases this)).trans hk⟩

set_option maxRecDepth 100000 in
set_option maxHeartbeats 2000000 in
theorem scan_any (t x : Nat) (τ : TxS) (s : DbS) (T : Tree) (ds : List Nat) (lo hi : ByteArray) (most : Int) (hm : 1000 < most) (w : World) (hT : TxAt w t τ) (hD : DbAt w x s) (hx : τ.db = x) (hk : τ.keys = T.keys) (hok : mayC s.poi τ.done false τ.write = 0)
    (hV : TreeV (fun z => z < w.heap.size) w T τ.root ds) (hR : TR T) (hp : T.pairs.length ≤ 150) (hlt : ∀ e ∈ T.pairs, slt e.1 hi = true) :
    Calls Tryz.prog 64 #[.pointer (some ⟨t, 0, none⟩), .string lo, .string hi, .int .i64 most] w fun e w' => ∃ v, e = .returned (.tuple #[v, .nilIface]) ∧ w'.ownsRow w.heap.size 68 2 v (fromK T lo).length (pairCells (fromK T lo)) ∧ Below w.heap.size w w' := by
  have hml : ¬ most < 1 := by omega
  refine (callsIn_wide (n := 3)).1 ?_
  refine callsIn_of_wp_marks Tryz.func64 rfl trivial ?_ rfl
  simp only [Tryz.ntmps64, List.size_toArray, List.length_cons, List.length_nil, Nat.reduceAdd, Nat.reduceSub, Array.replicate_succ, Array.replicate_zero, List.push_toArray, List.append_toArray, List.nil_append, List.cons_append]
  gi_wp2_with (refine ⟨trivial, ?_⟩; gi_at_call 102; refine (callsIn_wide.2 (all_any t lo hi _)).mono ?_; rintro e w' ⟨rfl, rfl⟩)
  obtain ⟨W0, hW0⟩ : ∃ W0, W0 = ((((((w.alloc (.cells #[.int .i64 most] 3)).alloc (.cells #[.slice none 0 0] 39)).alloc (.cells #[.nilIface] 31)).alloc (.cells #[.slice none 0 0] 39)).alloc (.cells #[.pointer (some ⟨t, 0, none⟩)] 29)).alloc (.cells #[.string lo] 9)).alloc (.cells #[.string hi] 9) := ⟨_, rfl⟩
  have hz : W0.heap.size = w.heap.size + 7 := by rw [hW0]; simp only [World.size_alloc]
  have hbel : Below w.heap.size w W0 := by
    rw [hW0]
    exact ((((((((Below.refl w.heap.size w).alloc (by simp) _).alloc (by simp) _).alloc (by simp; omega) _).alloc (by simp; omega) _).alloc (by simp; omega) _).alloc (by simp; omega) _).alloc (by simp; omega) _)
  have hR0 : Blk W0 w.heap.size 3 #[.int .i64 most] := by
    rw [hW0]
    exact ((((((Blk.new w _ _).alloc _).alloc _).alloc _).alloc _).alloc _).alloc _
  have hR1 : Blk W0 (w.heap.size + 1) 39 #[.slice none 0 0] := by
    rw [hW0]
    exact (((((Blk.new2 w _ _ _).alloc _).alloc _).alloc _).alloc _).alloc _
  have hR2 : Blk W0 (w.heap.size + 1 + 1) 31 #[.nilIface] := by
    rw [hW0]
    have := Blk.new2 (w.alloc (.cells #[.int .i64 most] 3)) (.cells #[.slice none 0 0] 39) 31 #[.nilIface]
    rw [World.size_alloc] at this
    exact (((this.alloc _).alloc _).alloc _).alloc _
  have hR3 : Blk W0 (w.heap.size + 1 + 1 + 1) 39 #[.slice none 0 0] := by
    rw [hW0]
    have := Blk.new (((w.alloc (.cells #[.int .i64 most] 3)).alloc (.cells #[.slice none 0 0] 39)).alloc (.cells #[.nilIface] 31)) 39 #[.slice none 0 0]
    simp only [World.size_alloc] at this
    exact ((this.alloc _).alloc _).alloc _
  have hB0 : Blk W0 (w.heap.size + 1 + 1 + 1 + 1) 29 #[.pointer (some ⟨t, 0, none⟩)] := by
    rw [hW0]
    have := Blk.new ((((w.alloc (.cells #[.int .i64 most] 3)).alloc (.cells #[.slice none 0 0] 39)).alloc (.cells #[.nilIface] 31)).alloc (.cells #[.slice none 0 0] 39)) 29 #[.pointer (some ⟨t, 0, none⟩)]
    simp only [World.size_alloc] at this
    exact (this.alloc _).alloc _
  have hB1 : Blk W0 (w.heap.size + 1 + 1 + 1 + 1 + 1) 9 #[.string lo] := by
    rw [hW0]
    have := Blk.new (((((w.alloc (.cells #[.int .i64 most] 3)).alloc (.cells #[.slice none 0 0] 39)).alloc (.cells #[.nilIface] 31)).alloc (.cells #[.slice none 0 0] 39)).alloc (.cells #[.pointer (some ⟨t, 0, none⟩)] 29)) 9 #[.string lo]
    simp only [World.size_alloc] at this
    exact this.alloc _
  have hB2 : Blk W0 (w.heap.size + 1 + 1 + 1 + 1 + 1 + 1) 9 #[.string hi] := by
    rw [hW0]
    have := Blk.new ((((((w.alloc (.cells #[.int .i64 most] 3)).alloc (.cells #[.slice none 0 0] 39)).alloc (.cells #[.nilIface] 31)).alloc (.cells #[.slice none 0 0] 39)).alloc (.cells #[.pointer (some ⟨t, 0, none⟩)] 29)).alloc (.cells #[.string lo] 9)) 9 #[.string hi]
    simp only [World.size_alloc] at this
    exact this
  have hT0 := hT.below hbel hT.lt
  have hD0 := hD.below hbel hD.lt
  have hV0 : TreeV (fun z => z < W0.heap.size) W0 T τ.root ds := hV.below hbel fun z hz' => by omega
  rw [← hW0]
  refine wpIn_rangeFunc_ownH (α := Str × Str) rfl (by omega) (gf := 140) (lb := #[.pointer (some ⟨w.heap.size + 1 + 1 + 1 + 1, 0, none⟩), .pointer (some ⟨w.heap.size + 1 + 1 + 1 + 1 + 1, 0, none⟩), .pointer (some ⟨w.heap.size + 1 + 1 + 1 + 1 + 1 + 1, 0, none⟩)]) rfl trivial (enters_of Tryz.func140 (by kernel_rfl) rfl)
    (encs := encP) (Kp := KpY w.heap.size) (S := fun xs => xs = fromK T lo) (Sp := fun _ => True) (N := 200) (w0 := W0) ?hseq (fun h k => h.trans k) (fun W l o o' => KpY.put hbel.size W l o o') (Below.refl _ _) (fun _ => rfl)
    (fun pre W => (∃ v, Blk W (w.heap.size + 1 + 1 + 1) 39 #[v] ∧ W.ownsRow W0.heap.size 68 2 v pre.length (pairCells pre)) ∧ Blk W w.heap.size 3 #[.int .i64 most] ∧ Blk W (w.heap.size + 1) 39 #[.slice none 0 0] ∧ Blk W (w.heap.size + 1 + 1) 31 #[.nilIface] ∧ Below w.heap.size w W ∧ W0.heap.size ≤ W.heap.size)
    (fun _ _ _ => False) ?hI (fun _ _ _ _ _ h _ _ => h) ⟨⟨_, hR3, World.ownsRow_nil _ _ _ _⟩, hR0, hR1, hR2, hbel, Nat.le_refl _⟩
    (fun y a' W => ∃ Bx, W0.heap.size ≤ Bx ∧ Blk W Bx 68 #[.string y.1, .string y.2] ∧ a' = { tmps := #[.pointer (some ⟨t, 0, none⟩), .string lo, .string hi, .int .i64 most, undef, undef, undef, .pointer (some ⟨w.heap.size, 0, none⟩), .pointer (some ⟨w.heap.size + 1, 0, none⟩), .pointer (some ⟨w.heap.size + 1 + 1, 0, none⟩), .pointer (some ⟨w.heap.size + 1 + 1 + 1, 0, none⟩), .pointer (some ⟨Bx, 0, none⟩), .nilIface, .int .i64 most, .bool false, .pointer (some ⟨t, 0, none⟩), .string lo, .string hi, .func (.func 140) #[] #[.pointer (some ⟨w.heap.size + 1 + 1 + 1 + 1, 0, none⟩), .pointer (some ⟨w.heap.size + 1 + 1 + 1 + 1 + 1, 0, none⟩), .pointer (some ⟨w.heap.size + 1 + 1 + 1 + 1 + 1 + 1, 0, none⟩)], .agg #[.string y.1, .string y.2], .nilIface, undef, undef, undef, undef, undef, undef, undef, undef, undef, undef, undef, undef], defers := [] })
    ?hAx ?hassign ?hbody ?done (fun _ _ _ _ _ _ h _ => h.elim)
  case hseq =>
    intro l J Jx W hW hJ hJx hY h0
    exact callsIn_wide.2 (all1_tree t x _ _ _ l τ s T ds w.heap.size lo hi J Jx W (hT0.below hW hT0.lt) (hD0.below hW hD0.lt) hx hk hok (hV.below (hbel.trans (hW.mono hbel.size)) fun _ h => h) hR hp hlt (hB0.below hW hB0.lt) (hB1.below hW hB1.lt) (hB2.below hW hB2.lt) (Nat.le_trans hbel.size hW.size) hJ hJx h0 (fun pre y W1 hj hl => YieldAt.any rfl 2 (hY pre y W1 hj hl)))
  case hI =>
    rintro pre W W' row ⟨⟨v, hv, hrow⟩, h1, h2, h3, hB, hsz⟩ hg hr
    have hr' := fun r e => (hr r e).2
    exact ⟨⟨v, blk_kept hv hg hr', ownsRow_kept hrow hg hr'⟩, blk_kept h1 hg hr', blk_kept h2 hg hr', blk_kept h3 hg hr', hB.grown hg hB.size fun k e => (by have := (hr k e).1; omega), Nat.le_trans hsz hg.size⟩
  case hAx =>
    rintro y a' u W W' row ⟨Bx, h1, h2, h3⟩ hg hr
    exact ⟨Bx, h1, blk_kept h2 hg (fun r e => (hr r e).2), h3⟩
  case hassign =>
    rintro l pre y W K ⟨⟨v, hv, hrow⟩, h1, h2, h3, hB, hsz⟩ hK
    have hA := (Below.refl W.heap.size W).alloc (Nat.le_refl _) (.cells #[.string y.1, .string y.2] 68)
    have hKp : KpY w.heap.size W (W.alloc (.cells #[.string y.1, .string y.2] 68)) := ⟨hA.mono hB.size, fun z T cs _ hz => hz.alloc _⟩
    have hI' : (∃ v, Blk (W.alloc (.cells #[.string y.1, .string y.2] 68)) (w.heap.size + 1 + 1 + 1) 39 #[v] ∧ (W.alloc (.cells #[.string y.1, .string y.2] 68)).ownsRow W0.heap.size 68 2 v pre.length (pairCells pre)) := ⟨v, hv.alloc _, ownsRow_kept (row := none) hrow (Below.grown hA) (fun r e => by cases e)⟩
    have hX := Blk.new W 68 #[.string y.1, .string y.2]
    unfold encP
    gi_wp2
    exact hK _ _ ((KeepsOthers.alloc _ _).from _) hKp ⟨hI', h1.alloc _, h2.alloc _, h3.alloc _, hB.trans (hA.mono hB.size), Nat.le_trans hsz hA.size⟩ ⟨_, hsz, hX, rfl⟩
  case hbody =>
    rintro l pre y a' W hl ⟨r, hr⟩ ⟨⟨v, hv, hrow⟩, h1, h2, h3, hB, hsz⟩ ⟨Bx, hBx, bX, rfl⟩ hlt
    obtain ⟨A, c, rfl, _⟩ := ownN_form hrow
    have c10 := cellOf hv 0 rfl
    have f10 := hv.frozen 0
    have c7 := cellOf h1 0 rfl
    have x0 := cellOf bX 0 rfl
    have x1 := cellOf bX 1 rfl
    have hne : ¬ (pre.length : Int) = most := by omega
    have hne' : ((pre.length : Int) == most) = false := by simpa using hne
    have HRow := hide hrow
    have HV3 := hide hv
    have hA := (Below.refl W.heap.size W).alloc (Nat.le_refl _) (.cells #[.string y.1, .string y.2] 68)
    have hrowA : (W.alloc (.cells #[.string y.1, .string y.2] 68)).drew.ownsRow W0.heap.size 68 2 (.slice A pre.length c) pre.length (pairCells pre) := ownsRow_kept (row := none) hrow (Below.grown hA.drew) (fun r e => by cases e)
    have hX := (Blk.new W 68 #[.string y.1, .string y.2]).drew
    obtain ⟨i0, hi0, hz0, hz1, hz2⟩ := info_parts info_pair
    have HI0 := hide hi0
    have HZ0 := hide hz0
    have HZ1 := hide hz1
    have HZ2 := hide hz2
    have HRA := hide hrowA
    have HX := hide hX
    have HA := hide hA
    have hcell : ∀ j u, [Value.string y.1, .string y.2][j]? = some u → (W.alloc (.cells #[.string y.1, .string y.2] 68)).drew.cell? (Addr.add ⟨W.heap.size, 0, none⟩ j) = some u := fun j u hu => by
      match j, hu with
      | 0, hu => cases hu; exact cellOf hX 0 rfl
      | 1, hu => cases hu; exact cellOf hX 1 rfl
    have HC := hide hcell
    have hb1 : W0.heap.size ≤ (W.alloc (.cells #[.string y.1, .string y.2] 68)).drew.heap.size := Nat.le_trans hsz hA.drew.size
    have HB1 := hide hb1
    clear hr hrow hv hA hrowA hX hi0 hz0 hz1 hz2 hcell hb1
    gi_wp2_with (first
      | (gi_at_builtin; go_loud (
         refine wpListIn_append_own_at _ rfl _ _ 39 rfl W0.heap.size 68 i0 _ 2 32 Tryz.underlying39 HI0.out HZ0.out HZ1.out HZ2.out rfl (by decide) (.slice A pre.length c) pre.length _ rfl HRA.out ⟨W.heap.size, 0, none⟩ 1 1 [.string y.1, .string y.2] rfl rfl HC.out (by simp [Value.oneCell']) (by unfold maxLen; omega) (by omega) HB1.out ?_
         intro v' w1 hown' hgr hnil hat
         obtain ⟨A', c', rfl, _⟩ := ownN_form hown'
         have hrow3 : ∀ z, z < W0.heap.size → some z ≠ Value.ownBlock (.slice A pre.length c) := fun z hz' e => by
           have := (ownN_lt HRow.out e.symm).1
           omega
         have hv1 : Blk w1 (w.heap.size + 1 + 1 + 1) 39 #[.slice A pre.length c] := (hgr.block _ ((HV3.out.alloc _).drew).lt (fun e => hrow3 _ (by omega) e)).trans ((HV3.out.alloc _).drew)
         have c11 := cellOf hv1 0 rfl
         have f11 := hv1.frozen 0
         have HV1 := hide hv1
         have HR3 := hide hrow3
         clear hv1 hrow3
         have HOWN := hide hown'
         have HGR := hide hgr
         have HAT := hide hat
         clear hown' hgr hnil hat)))
    have hWd : KeepsOthers W (W.alloc (.cells #[.string y.1, .string y.2] 68)).drew := (KeepsOthers.alloc _ _).trans (KeepsOthers.drew _)
    have hcells : ∀ (j : Nat) (o : Obj), Value.ownBlock (.slice A pre.length c) = some j → (W.alloc (.cells #[.string y.1, .string y.2] 68)).drew.heap[j]? = some o → o.isCells = true ∧ ∃ cs, o = .cells cs 68 := by
      intro j o hj ho
      rcases HRA.out.2 with ⟨h0, _⟩ | ⟨g', cap, cur, e1, e2, e3, e4⟩
      · rw [h0] at hj; simp [Value.ownBlock] at hj
      · rw [e1] at hj
        have : j = g' := by simpa [Value.ownBlock] using hj.symm
        subst this
        rw [show (W.alloc (.cells #[.string y.1, .string y.2] 68)).drew.heap[j]? = _ from e3] at ho
        cases ho
        exact ⟨rfl, _, rfl⟩
    have hgr := HGR.out
    have hrow_ty : ∀ (j : Nat) T cs, Value.ownBlock (.slice A pre.length c) = some j → Blk (W.alloc (.cells #[.string y.1, .string y.2] 68)) j T cs → T = 68 := fun j T cs e hb => by
      obtain ⟨_, cs', e'⟩ := hcells j _ e hb
      cases e'
      rfl
    have hBA : Below w.heap.size W (W.alloc (.cells #[.string y.1, .string y.2] 68)) := HA.out.mono hB.size
    have hbig : ∀ j, Value.ownBlock (.slice A pre.length c) = some j → w.heap.size ≤ j := fun j e => by
      have := (ownN_lt HRow.out e).1
      omega
    have hB1 : Below w.heap.size W w1 := hBA.grown hgr (Nat.le_trans hB.size hBA.size) fun k e => hbig k e
    have hB2 : Below w.heap.size W (w1.setCell ⟨w.heap.size + 1 + 1 + 1, 0, none⟩ (.slice A' (pre.length + 1) c')) := hB1.setCell (p := ⟨w.heap.size + 1 + 1 + 1, 0, none⟩) (by simp; omega) _
    have hfar : ∀ z T cs, z < W0.heap.size → z ≠ w.heap.size + 1 + 1 + 1 → Blk W z T cs → Blk (w1.setCell ⟨w.heap.size + 1 + 1 + 1, 0, none⟩ (.slice A' (pre.length + 1) c')) z T cs := fun z T cs hz hne hb => by
      have h4 := hb.alloc (.cells #[.string y.1, .string y.2] 68)
      have h5 : Blk w1 z T cs := (hgr.block z h4.lt (fun e => HR3.out z hz e)).trans h4
      exact h5.far (p := ⟨w.heap.size + 1 + 1 + 1, 0, none⟩) hne _
    refine ⟨KeepsOthers.from (((KeepsOthers.alloc _ _).trans (KeepsOthers.grown hgr fun j o e ho => (hcells j o e ho).1)).trans (KeepsOthers.setCell _ _ _)) _, ⟨hB2, fun z T cs hT hz => ?_⟩, ⟨_, (HV1.out.set_ 0 _), ?_⟩, hfar _ _ _ (by omega) (by omega) h1, hfar _ _ _ (by omega) (by omega) h2, hfar _ _ _ (by omega) (by omega) h3, hB.trans hB2, Nat.le_trans hsz hB2.size⟩
    · have h4 := hz.alloc (.cells #[.string y.1, .string y.2] 68)
      have h5 : Blk w1 z T cs := (hgr.block z h4.lt (fun e => by
        have := hrow_ty z T cs e.symm h4
        rcases hT with rfl | rfl
        · exact absurd this (by decide)
        · exact absurd this (by decide))).trans h4
      refine h5.far (p := ⟨w.heap.size + 1 + 1 + 1, 0, none⟩) (fun e => ?_) _
      have e' : z = w.heap.size + 1 + 1 + 1 := e
      subst e'
      have := Blk.ne_ h5 HV1.out
      rcases hT with rfl | rfl
      · exact this (by decide) rfl
      · exact this (by decide) rfl
    · have := ownsRow_far HOWN.out (p := ⟨w.heap.size + 1 + 1 + 1, 0, none⟩) (by show w.heap.size + 1 + 1 + 1 < W0.heap.size; omega) (.slice A' (pre.length + 1) c')
      rw [pairCells_snoc, List.length_append]
      exact this
  case done =>
    rintro D ys W hDs rfl ⟨⟨v, hv, hrow⟩, h1, h2, h3, hB, hsz⟩ hK
    have c1 := cellOf hv 0 rfl
    have c2 := cellOf h2 0 rfl
    have c3 := cellOf h3 0 rfl
    have f1 : W.frozen? ⟨w.heap.size + 1, 0, none⟩ = false := h2.frozen 0
    have f2 : W.frozen? ⟨w.heap.size + 1 + 1, 0, none⟩ = false := h3.frozen 0
    obtain ⟨A, c, rfl, _⟩ := ownN_form hrow
    have HROW := hide hrow
    clear hrow
    gi_wp2
    obtain ⟨W2, hW2⟩ : ∃ W2, W2 = (W.setCell ⟨w.heap.size + 1, 0, none⟩ (.slice A (fromK T lo).length c)).setCell ⟨w.heap.size + 1 + 1, 0, none⟩ .nilIface := ⟨_, rfl⟩
    have hK2 : W2.heap[D]? = some (.deferred (some [])) := by rw [hW2]; exact ((KeepsOthers.setCell _ _ _).trans (KeepsOthers.setCell _ _ _)).same D _ hK rfl
    have hq1 : Blk W2 (w.heap.size + 1) 39 #[.slice A (fromK T lo).length c] := by rw [hW2]; exact (h2.set_ 0 _).far (by simp) _
    have hq2 : Blk W2 (w.heap.size + 1 + 1) 31 #[.nilIface] := by rw [hW2]; exact (h3.far (by simp) _).set_ 0 _
    have hb2 : Below w.heap.size w W2 := by
      rw [hW2]
      exact (hB.setCell (p := ⟨w.heap.size + 1, 0, none⟩) (by simp) _).setCell (p := ⟨w.heap.size + 1 + 1, 0, none⟩) (by simp; omega) _
    have hrow2 : W2.ownsRow W0.heap.size 68 2 (.slice A (fromK T lo).length c) (fromK T lo).length (pairCells (fromK T lo)) := by
      rw [hW2]
      exact ownsRow_far (ownsRow_far HROW.out (p := ⟨w.heap.size + 1, 0, none⟩) (by show w.heap.size + 1 < W0.heap.size; omega) _) (p := ⟨w.heap.size + 1 + 1, 0, none⟩) (by show w.heap.size + 1 + 1 < W0.heap.size; omega) _
    rw [← hW2]
    refine ⟨by simp, .inl ⟨_, _, rfl, run_takeDeferred hK2, ?_⟩⟩
    have g := grownBy_putObj' W2 D (.deferred none)
    have d1 := cell_kept (cellOf hq1 0 rfl) g (fun r e => by cases e; exact ⟨_, hK2, rfl⟩)
    have d2 := cell_kept (cellOf hq2 0 rfl) g (fun r e => by cases e; exact ⟨_, hK2, rfl⟩)
    refine ⟨.tuple #[.slice A (fromK T lo).length c, .nilIface], by simp [results, Tryz.results64, go_sem, d1, d2], _, rfl, ?_, ?_⟩
    · have h4 := ownsRow_kept hrow2 g (fun r e => by cases e; exact ⟨_, hK2, rfl⟩)
      refine ⟨h4.1, ?_⟩
      rcases h4.2 with h0 | ⟨g', cap, cur, e1, e2, e3⟩
      · exact .inl h0
      · exact .inr ⟨g', cap, cur, e1, Nat.le_trans hbel.size e2, e3⟩
    · exact ⟨g.os.trans hb2.os, g.tape.trans hb2.tape, g.output.trans hb2.output, Nat.le_trans hb2.size g.size, fun y hy => (g.block y (Nat.lt_of_lt_of_le hy hb2.size) (fun e => by injection e; omega)).trans (hb2.block y hy)⟩
end Go.Proofs.YtemondlgcmpbbaaGreatDoor
