/- Wi Wk: merged. -/
import Derived.Test.YtemondlgcmpbbaaGreatDoorMC19
/- Node.Join: what two neighbours have, in one new node. -/
namespace Go.Proofs.YtemondlgcmpbbaaGreatDoor
open Go.RowKit

theorem NodeIs.keep {w w' : World} {b blk gen : Nat} {d : Bool} {A1 : Option Addr} {n1 c1 : Nat} {xs : List Value} {A2 : Option Addr} {n2 c2 : Nat} {ys : List Value} (h : NodeIs w b blk gen d A1 n1 c1 xs A2 n2 c2 ys) (hk : Keep w w') : NodeIs w' b blk gen d A1 n1 c1 xs A2 n2 c2 ys :=
  ⟨(hk.block _ _ _ _ h.node immN).trans h.node, h.ps.keep immP hk, h.ks.keep immK hk⟩

theorem copy_any' (b blk gen : Nat) (dirty : Bool) (A1 : Option Addr) (n1 c1 : Nat) (xs : List Value) (A2 : Option Addr) (n2 c2 : Nat) (ys : List Value) (w : World) (h : NodeIs w b blk gen dirty A1 n1 c1 xs A2 n2 c2 ys)
    (hx : ∀ u ∈ xs, u.oneCell' = true) (hy : ∀ u ∈ ys, u.oneCell' = true) (hn1 : n1 ≤ 1000) (hn2 : n2 ≤ 1000) :
    Calls Tryz.prog 118 #[P b] w fun e w' => ∃ b' A1' c1' A2' c2', e = .returned (P b') ∧ Blk w' b' 137 #[.int .i64 0, .int .u32 0, .bool true, .slice A1' n1 c1', .slice A2' n2 c2'] ∧ w'.ownsRow w.heap.size 68 2 (.slice A1' n1 c1') n1 xs ∧ w'.ownsRow w.heap.size 139 2 (.slice A2' n2 c2') n2 ys ∧ w.heap.size ≤ b' ∧ Below w.heap.size w w' :=
  (copy_any b blk gen dirty A1 n1 c1 xs A2 n2 c2 ys w h hx hy hn1 hn2).mono fun _ _ ⟨b', v1, v2, he, hb, h1, h2, h3, h4⟩ => by
    obtain ⟨A1', c1', rfl, _, _⟩ := own_form h1
    obtain ⟨A2', c2', rfl, _, _⟩ := own_form h2
    exact ⟨b', A1', c1', A2', c2', he, hb, h1, h2, h3, h4⟩

theorem rows_ne {w : World} {base base' s s' n n' : Nat} {T T' : TypeId} {v v' : Value} {xs xs' : List Value} (h : w.ownsRow base T s v n xs) (h' : w.ownsRow base' T' s' v' n' xs') (hne : T ≠ T') : v.ownBlock = none ∨ v.ownBlock ≠ v'.ownBlock := by
  rcases h.2 with ⟨rfl, _⟩ | ⟨g, cap, cur, rfl, hb, hg, _⟩
  · exact .inl rfl
  · exact .inr fun he => own_blk_ne h' hg (fun e => hne e.symm) he.symm
theorem own_lo {w : World} {base s n : Nat} {T : TypeId} {v : Value} {xs : List Value} (h : w.ownsRow base T s v n xs) : ∀ g, v.ownBlock = some g → base ≤ g := by
  rcases h.2 with ⟨rfl, _⟩ | ⟨g, cap, cur, rfl, hb, hg, _⟩
  · intro g hg; cases hg
  · intro g' hg; have : g = g' := by simpa [Value.ownBlock] using hg
    omega

set_option maxRecDepth 100000 in
set_option maxHeartbeats 1600000 in
theorem join_walk0 (es1 es2 : List (Str × Str)) (k : Str) (b1 blk1 gen1 c1 d1 b2 blk2 gen2 c2 d2 : Nat) (f1 f2 : Bool) (A1 B1 A2 B2 : Option Addr) (w : World)
    (hn1 : NodeIs w b1 blk1 gen1 f1 A1 es1.length c1 (pcells es1) B1 0 d1 []) (hn2 : NodeIs w b2 blk2 gen2 f2 A2 es2.length c2 (pcells es2) B2 0 d2 []) (hl1 : es1.length ≤ 400) (hl2 : es2.length ≤ 400) :
    Calls Tryz.prog 162 #[P b1, .agg #[.string k, P b2]] w fun e w' => ∃ b' A1 c1 A2 c2, e = .returned (P b') ∧ Blk w' b' 137 #[.int .i64 0, .int .u32 0, .bool true, .slice A1 (es1.length + es2.length) c1, .slice A2 0 c2] ∧
      w'.ownsRow w.heap.size 68 2 (.slice A1 (es1.length + es2.length) c1) (es1.length + es2.length) (pcells es1 ++ pcells es2) ∧ w'.ownsRow w.heap.size 139 2 (.slice A2 0 c2) 0 [] ∧ w.heap.size ≤ b' ∧ Below w.heap.size w w' := by
  obtain ⟨i0, hi0, hz0, hz1, hz2⟩ := info_parts info_pair
  have hbx : Blk (w.alloc (.cells #[.string k, P b2] 139)) w.heap.size 139 #[.string k, P b2] := Blk.new w _ _
  have hk0 : Keep w (w.alloc (.cells #[.string k, P b2] 139)) := Keep.alloc _
  have hm1 := hn1.keep hk0
  have hm2 := hn2.keep hk0
  have lt1 := Blk.lt hn1.node
  have lt2 := Blk.lt hn2.node
  have HBX := hide hbx
  have M1 := hide hm1
  have M2 := hide hm2
  have O1 := hide (pcells_one es1)
  have O2 := hide (pcells_one es2)
  have I0 := hide hi0
  have Z0 := hide hz0
  have Z1 := hide hz1
  have Z2 := hide hz2
  clear hbx hm1 hm2 hk0 hn1 hn2 hi0 hz0 hz1 hz2
  unfold P
  go_enter Tryz.func162, Tryz.ntmps162
  go_wp2_with (first
    | (go_at_call 118; refine (copy_any' b1 blk1 gen1 f1 A1 _ c1 _ B1 0 d1 _ _ M1.out O1.out (by simp) (by omega) (by omega)).mono ?_; rintro e w1 ⟨b', A1', c1', A2', c2', rfl, x1, x2, x3, x4, x5⟩; have N1 := hide (M1.out.keep (Keep.of_below x5)); have N2 := hide (M2.out.keep (Keep.of_below x5)); have X1 := hide x1; clear x1)
    | (go_at_call 81; refine (leaf_yes b1 blk1 gen1 d1 _ _ B1 _ N1.out.node).mono ?_; rintro e w' ⟨rfl, rfl⟩))
  have hz1 : w.heap.size + 1 ≤ w1.heap.size := by have := x5.size; simp at this; omega
  have y1 : w1.cell? ⟨b', 3, none⟩ = some (.slice A1' es1.length c1') := by rw [X1.out.cell]; rfl
  have hbx1 := HBX.out.below x5 (by simp)
  have y2 : w1.cell? ⟨w.heap.size, 1, none⟩ = some (P b2) := by rw [hbx1.cell]; rfl
  have y3 : w1.cell? ⟨b2, 3, none⟩ = some (.slice A2 es2.length c2) := by rw [Blk.cell N2.out.node]; rfl
  have hlb : b' < w1.heap.size := X1.out.lt
  have hneb : (Value.slice A1' es1.length c1').ownBlock ≠ some b' := own_blk_ne x2 X1.out (by decide)
  have hx2 := own_base x2 (base' := w.heap.size) (by simp)
  have R2 := hide N2.out.ps.reads
  have HX2 := hide hx2
  have HX3 := hide x3
  have HNE := hide hneb
  have l1 : es1.length + es2.length ≤ maxLen := by simp only [maxLen]; omega
  have l2 : (es1.length + es2.length) * 32 ≤ 140737488355328 := by omega
  have l3 : w.heap.size ≤ w1.heap.size := by omega
  have H5 := hide x5
  clear hbx1 x2 x3 hx2 hneb x5
  go_region_law (
    refine step_append_any _ rfl (.tmp 15) (.tmp 20) 39 rfl w.heap.size 68 i0 _ 2 32 Tryz.underlying39 I0.out Z0.out Z1.out Z2.out rfl (by omega) (.slice A1' es1.length c1') es1.length (pcells es1) (by simp [Act.eval]) HX2.out w1.heap.size A2 es2.length c2 (pcells es2) (by simp [Act.eval]) R2.out.drew O2.out l1 l2 l3 ?_
    intro v1 w2 ho2 hg2 hat2
    obtain ⟨A3, c3, rfl, _, ho3⟩ := own_form ho2
    have s1 := X1.out.drew.grown hg2 (fun h => HNE.out h.symm)
    have s2 : w2.cell? ⟨b', 3, none⟩ = some (.slice A1' es1.length c1') := by rw [s1.cell]; rfl
    have s3 : w2.frozen? ⟨b', 3, none⟩ = false := s1.frozen 3
    have S1 := hide s1
    clear s1)
  all_goals
    go_wp2
    go_ret
    have hb1 : Below w.heap.size w w1 := ((Below.refl _ _).alloc (Nat.le_refl _) _).trans (H5.out.mono (by simp))
    have hb2 : Below w.heap.size w w2 := Below.grown (hb1.trans (Below.refl _ _).drew) hg2 l3 (own_lo HX2.out)
    have hk2 : w2.ownsRow w.heap.size 139 2 (.slice A2' 0 c2') 0 [] := (own_base (World.ownsRow.kept (w := w1.drew) HX3.out hg2 (rows_ne HX3.out HX2.out (by decide))) (by simp))
    refine ⟨b', A3, c3, A2', c2', rfl, S1.out.set_ 3 _, ?_, ?_, ?_, ?_⟩
    · exact ownsRow_setCell_other ho3 (own_blk_ne ho3 S1.out (by decide)) _
    · exact ownsRow_setCell_other hk2 (own_blk_ne hk2 S1.out (by decide)) _
    · simp at x4; omega
    · exact (hb2.setCell (p := ⟨b', 3, none⟩) (by simp at x4; show w.heap.size ≤ b'; omega) _)

end Go.Proofs.YtemondlgcmpbbaaGreatDoor

/- A tree in memory together with the blocks that it may lie in (ok): what is needed where some blocks are still being written. -/
namespace Go.Proofs.YtemondlgcmpbbaaGreatDoor
open Go.RowKit

/-- The worlds have the same in all these blocks. -/
def Agree (ok : Nat → Prop) (w w' : World) : Prop := ∀ x, ok x → w'.heap[x]? = w.heap[x]?
theorem Agree.trans {ok : Nat → Prop} {a b c : World} (h : Agree ok a b) (k : Agree ok b c) : Agree ok a c := fun x hx => (k x hx).trans (h x hx)
theorem Agree.less {ok ok' : Nat → Prop} {a b : World} (h : Agree ok a b) (hs : ∀ x, ok' x → ok x) : Agree ok' a b := fun x hx => h x (hs x hx)
theorem Agree.of_below {w w' : World} {B : Nat} (h : Below B w w') {ok : Nat → Prop} (hok : ∀ x, ok x → x < B) : Agree ok w w' := fun x hx => h.block x (hok x hx)
theorem Agree.setCell {ok : Nat → Prop} (w : World) (p : Addr) (u : Value) (h : ¬ ok p.block) : Agree ok w (w.setCell p u) := fun x hx => Below.heap_setCell w p u x (fun e => h (e ▸ hx))
theorem Agree.grown {ok : Nat → Prop} {w w' : World} {row : Option Nat} (h : w.grownBy w' row) (hok : ∀ x, ok x → x < w.heap.size ∧ some x ≠ row) : Agree ok w w' := fun x hx => h.block x (hok x hx).1 (hok x hx).2

def rowOk (ok : Nat → Prop) (n : Nat) (A : Option Addr) : Prop := 0 < n → ∀ a, A = some a → ok a.block
theorem rowOk.more {ok ok' : Nat → Prop} {n : Nat} {A : Option Addr} (h : rowOk ok n A) (hs : ∀ x, ok x → ok' x) : rowOk ok' n A := fun hn a ha => hs _ (h hn a ha)

theorem SlC.move {ok : Nat → Prop} {w w' : World} {T : TypeId} {A : Option Addr} {n c : Nat} {xs : List Value} (h : SlC w T (.slice A n c) n xs) (hr : rowOk ok n A) (ha : Agree ok w w') : SlC w' T (.slice A n c) n xs := by
  obtain ⟨hl, A', c', hv, h1, h2, h3, hp⟩ := h
  injection hv with e1 _ e3
  subst e1
  subst e3
  refine ⟨hl, A, c, rfl, h1, h2, h3, fun hn => ?_⟩
  obtain ⟨g, o, cur, rfl, hg, hx⟩ := hp hn
  exact ⟨g, o, cur, rfl, (ha g (hr hn _ rfl)).trans hg, hx⟩
theorem SlC.row_lt {w : World} {T : TypeId} {A : Option Addr} {n c : Nat} {xs : List Value} (h : SlC w T (.slice A n c) n xs) : rowOk (fun x => x < w.heap.size) n A := by
  intro hn a ha
  obtain ⟨hl, A', c', hv, h1, h2, h3, hp⟩ := h
  injection hv with e1 _ e3
  subst e1
  obtain ⟨g, o, cur, hA, hg, hx⟩ := hp hn
  rw [hA] at ha
  injection ha with ha
  subst ha
  exact hg.lt

/-- The tree t of height h lies at block b, in blocks that are ok. -/
def FRep (ok : Nat → Prop) (w : World) : (h : Nat) → Tr h → Nat → List Nat → Prop
  | 0, t, b, ds => ∃ A1 c1 A2 c2, NodeIs w b (Nd.blk t) (Nd.gen t) (Nd.dirty t) A1 (Nd.es t).length c1 (pcells (Nd.es t)) A2 0 c2 [] ∧ ok b ∧ rowOk ok (Nd.es t).length A1 ∧ ds = dirtyAt (Nd.dirty t) b
  | h + 1, t, b, ds => ∃ A1 c1 A2 c2 bs dss, NodeIs w b (Nd.blk t) (Nd.gen t) (Nd.dirty t) A1 0 c1 [] A2 (Nd.es t).length c2 (kcells (Nd.es t) bs) ∧ ok b ∧ rowOk ok (Nd.es t).length A2 ∧ RepL (FRep ok w h) (Nd.es t) bs dss ∧ ds = dss.flatten ++ dirtyAt (Nd.dirty t) b

theorem NodeIs.move {ok : Nat → Prop} {w w' : World} {b blk gen : Nat} {d : Bool} {A1 : Option Addr} {n1 c1 : Nat} {xs : List Value} {A2 : Option Addr} {n2 c2 : Nat} {ys : List Value} (h : NodeIs w b blk gen d A1 n1 c1 xs A2 n2 c2 ys) (ha : Agree ok w w') (hb : ok b) (h1 : rowOk ok n1 A1) (h2 : rowOk ok n2 A2) : NodeIs w' b blk gen d A1 n1 c1 xs A2 n2 c2 ys :=
  ⟨(ha b hb).trans h.node, h.ps.move h1 ha, h.ks.move h2 ha⟩
theorem rowOk.zero (ok : Nat → Prop) (A : Option Addr) : rowOk ok 0 A := fun h => absurd h (by omega)

theorem FRep.move {ok ok' : Nat → Prop} {w w' : World} (ha : Agree ok w w') (hs : ∀ x, ok x → ok' x) : ∀ {h : Nat} {t : Tr h} {b : Nat} {ds : List Nat}, FRep ok w h t b ds → FRep ok' w' h t b ds
  | 0, _, _, _, ⟨A1, c1, A2, c2, hn, hb, hr, hd⟩ => ⟨A1, c1, A2, c2, hn.move ha hb hr (rowOk.zero _ _), hs _ hb, hr.more hs, hd⟩
  | _ + 1, _, _, _, ⟨A1, c1, A2, c2, bs, dss, hn, hb, hr, hk, hd⟩ => ⟨A1, c1, A2, c2, bs, dss, hn.move ha hb (rowOk.zero _ _) hr, hs _ hb, hr.more hs, hk.mono fun _ _ _ hk => FRep.move ha hs hk, hd⟩
theorem FRep.more {ok ok' : Nat → Prop} {w : World} {h : Nat} {t : Tr h} {b : Nat} {ds : List Nat} (hf : FRep ok w h t b ds) (hs : ∀ x, ok x → ok' x) : FRep ok' w h t b ds := hf.move (fun _ _ => rfl) hs
theorem FRep.rep {ok : Nat → Prop} {w : World} : ∀ {h : Nat} {t : Tr h} {b : Nat} {ds : List Nat}, FRep ok w h t b ds → Rep w h t b ds
  | 0, _, _, _, ⟨_A1, _c1, _A2, _c2, hn, _hb, _hr, hd⟩ => ⟨_, _, hn.node, hn.ps, hn.ks, hd⟩
  | _ + 1, _, _, _, ⟨_A1, _c1, _A2, _c2, bs, dss, hn, _hb, _hr, hk, hd⟩ => ⟨_, _, bs, dss, hn.node, hn.ps, hn.ks, hk.mono fun _ _ _ hk => hk.rep, hd⟩
theorem Rep.frep {w : World} : ∀ {h : Nat} {t : Tr h} {b : Nat} {ds : List Nat}, Rep w h t b ds → FRep (fun x => x < w.heap.size) w h t b ds
  | 0, _, _, _, hr => by
    obtain ⟨A1, c1, A2, c2, hn, hd⟩ := rep_leaf hr
    exact ⟨A1, c1, A2, c2, hn, Blk.lt hn.node, hn.ps.row_lt, hd⟩
  | _ + 1, _, _, _, hr => by
    obtain ⟨A1, c1, A2, c2, bs, dss, hn, hk, hd⟩ := rep_branch hr
    exact ⟨A1, c1, A2, c2, bs, dss, hn, Blk.lt hn.node, hn.ks.row_lt, hk.mono fun _ _ _ hk => Rep.frep hk, hd⟩
theorem FRep.lt {ok : Nat → Prop} {w : World} {h : Nat} {t : Tr h} {b : Nat} {ds : List Nat} (hf : FRep ok w h t b ds) : FRep (fun x => ok x ∧ x < w.heap.size) w h t b ds := by
  induction h generalizing b ds with
  | zero =>
    obtain ⟨A1, c1, A2, c2, hn, hb, hr, hd⟩ := hf
    exact ⟨A1, c1, A2, c2, hn, ⟨hb, Blk.lt hn.node⟩, fun h0 a ha => ⟨hr h0 a ha, hn.ps.row_lt h0 a ha⟩, hd⟩
  | succ h ih =>
    obtain ⟨A1, c1, A2, c2, bs, dss, hn, hb, hr, hk, hd⟩ := hf
    exact ⟨A1, c1, A2, c2, bs, dss, hn, ⟨hb, Blk.lt hn.node⟩, fun h0 a ha => ⟨hr h0 a ha, hn.ks.row_lt h0 a ha⟩, hk.mono fun _ _ _ hk => ih hk, hd⟩

theorem own_rowOk {w : World} {base n c : Nat} {T : TypeId} {A : Option Addr} {xs : List Value} (h : w.ownsRow base T 2 (.slice A n c) n xs) {ok : Nat → Prop} (hok : ∀ x, base ≤ x → x < w.heap.size → ok x) : rowOk ok n A := by
  intro hn a ha
  subst ha
  rcases h.2 with ⟨h0, _⟩ | ⟨g, cap, cur, hv, hb, hg, _⟩
  · cases h0
  · injection hv with hv
    injection hv with hv
    subst hv
    exact hok _ hb (Blk.lt (t := T) hg)

theorem FRep.mk_leaf {ok : Nat → Prop} {w : World} {base b n c1 c2 : Nat} {A1 A2 : Option Addr} {es : List (Str × Str)} (hn : n = es.length) (hb : Blk w b 137 #[.int .i64 0, .int .u32 0, .bool true, .slice A1 n c1, .slice A2 0 c2])
    (h1 : w.ownsRow base 68 2 (.slice A1 n c1) n (pcells es)) (h2 : w.ownsRow base 139 2 (.slice A2 0 c2) 0 []) (hbb : base ≤ b) (hok : ∀ x, base ≤ x → x < w.heap.size → ok x) : FRep ok w 0 (fresh es : Nd Str) b [b] := by
  subst hn
  exact ⟨A1, c1, A2, c2, ⟨hb, SlC.of_own h1, SlC.of_own h2⟩, hok _ hbb hb.lt, own_rowOk h1 hok, rfl⟩
theorem FRep.mk_branch {ok : Nat → Prop} {w : World} {h base b n c1 c2 : Nat} {A1 A2 : Option Addr} {es : List (Str × Tr h)} {bs : List Nat} {dss : List (List Nat)} (hn : n = es.length) (hb : Blk w b 137 #[.int .i64 0, .int .u32 0, .bool true, .slice A1 0 c1, .slice A2 n c2])
    (h1 : w.ownsRow base 68 2 (.slice A1 0 c1) 0 []) (h2 : w.ownsRow base 139 2 (.slice A2 n c2) n (kcells es bs)) (hbb : base ≤ b) (hok : ∀ x, base ≤ x → x < w.heap.size → ok x) (hk : RepL (FRep ok w h) es bs dss) : FRep ok w (h + 1) (fresh es : Nd (Tr h)) b (dss.flatten ++ [b]) := by
  subst hn
  exact ⟨A1, c1, A2, c2, bs, dss, ⟨hb, SlC.of_own h1, SlC.of_own h2⟩, hok _ hbb hb.lt, own_rowOk h2 hok, hk, rfl⟩

end Go.Proofs.YtemondlgcmpbbaaGreatDoor
