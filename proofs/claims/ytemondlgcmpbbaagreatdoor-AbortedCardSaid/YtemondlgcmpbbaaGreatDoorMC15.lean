/- Fm Ws Fn: merged. -/
import Derived.Test.YtemondlgcmpbbaaGreatDoorMC14
import Derived.Test.YtemondlgcmpbbaaGreatDoorMC02
import Derived.Deep.LoopGhost
import Derived.BigQuiet
/- Plain: the pairs of a tree from a key on, as Each goes through them; ahead of a key. -/
namespace Go.Proofs.YtemondlgcmpbbaaGreatDoor

def Tr.from : (h : Nat) → Tr h → Str → List (Str × Str)
  | 0, n, key => (Nd.es n).drop (place key (Nd.es n))
  | h + 1, n, key => ((Nd.es n).drop (below key (Nd.es n))).flatMap fun e => Tr.from h e.2 key

theorem flatMap_same {α β : Type} {f g : α → List β} {l : List α} (h : ∀ e ∈ l, f e = g e) : l.flatMap f = l.flatMap g := by
  induction l with
  | nil => rfl
  | cons a l ih => rw [List.flatMap_cons, List.flatMap_cons, h a (by simp), ih fun e he => h e (by simp [he])]
theorem place_all {K : Type} {key : Str} {l : List (Str × K)} (h : ∀ e ∈ l, slt e.1 key = false) : place key l = 0 := by
  unfold place
  cases l with
  | nil => rfl
  | cons a l => rw [List.takeWhile_cons_of_neg (by simp [h a (by simp)])]; rfl
theorem below_all {K : Type} {key : Str} {l : List (Str × K)} (h : ∀ e ∈ l.tail, slt key e.1 = true) : below key l = 0 := by
  unfold below
  cases ht : l.tail with
  | nil => rfl
  | cons a r =>
    rw [ht] at h
    rw [List.takeWhile_cons_of_neg (by simp [h a (by simp)])]; rfl

theorem chain_low {K : Type} {W : Str → Option Str → K → Prop} {lo : Str} {hi : Option Str} {X : List (Str × K)} (h : Chain W lo hi X) : ∀ e ∈ X.tail, slt lo e.1 = true := by
  induction X generalizing lo with
  | nil => intro e he; cases he
  | cons a X ih =>
    obtain ⟨h1, _, h3⟩ := h
    intro e he
    rcases h3 with ⟨rfl, _⟩ | ⟨k, hk, _, _, hc⟩
    · cases he
    · cases X with
      | nil => cases he
      | cons b X =>
        have hb : b.1 = k := hc.1
        rcases List.mem_cons.1 he with rfl | he
        · rw [hb]; exact hk
        · exact slt_trans hk (ih hc e he)

theorem from_low : ∀ (h : Nat) (lo : Str) (hi : Option Str) (n : Tr h) (key : Str), WF h lo hi n → slt key lo = true → Tr.from h n key = Tr.pairs h n
  | 0, lo, hi, n, key, hw, hk => by
    show (Nd.es n).drop (place key (Nd.es n)) = Nd.es n
    rw [place_all fun e he => ?_, List.drop_zero]
    have := (hw.2 e he).1
    exact slt_asymm (slt_of_lt_of_le hk this)
  | h + 1, lo, hi, n, key, hw, hk => by
    have hc : Chain (WF h) lo hi (Nd.es n) := hw
    show ((Nd.es n).drop (below key (Nd.es n))).flatMap (fun e => Tr.from h e.2 key) = (Nd.es n).flatMap fun e => Tr.pairs h e.2
    rw [below_all fun e he => slt_trans hk (chain_low hc e he), List.drop_zero]
    have : ∀ e ∈ Nd.es n, Tr.from h e.2 key = Tr.pairs h e.2 := by
      intro e he
      obtain ⟨⟨hi', w1⟩, _⟩ := chain_mem hc e he
      refine from_low h e.1 hi' e.2 key w1 ?_
      cases hx : Nd.es n with
      | nil => rw [hx] at he; cases he
      | cons a X =>
        rw [hx] at he hc
        rcases List.mem_cons.1 he with rfl | he
        · rw [hc.1]; exact hk
        · exact slt_trans hk (chain_low hc e he)
    exact flatMap_same this

theorem from_pairs : ∀ (h : Nat) (lo : Str) (hi : Option Str) (n : Tr h) (key : Str), WF h lo hi n → slt key lo = false → Tr.from h n key = (Tr.pairs h n).drop (place key (Tr.pairs h n))
  | 0, _, _, _, _, _, _ => rfl
  | h + 1, lo, hi, n, key, hw, hk => by
    have hc0 : Chain (WF h) lo hi (Nd.es n) := hw
    obtain ⟨A, ⟨k, c⟩, B, hX, hl, h5, h6⟩ := below_at hc0 hk
    have hc : Chain (WF h) lo hi (A ++ (k, c) :: B) := by rw [← hX]; exact hc0
    obtain ⟨m1, m2, _⟩ := kid_mid hc h5 h6
    show ((Nd.es n).drop (below key (Nd.es n))).flatMap (fun e => Tr.from h e.2 key) = (kpairs h (Nd.es n)).drop (place key (kpairs h (Nd.es n)))
    rw [hl, hX, List.drop_left, List.flatMap_cons, kpairs_app, kpairs_cons, ← List.append_assoc, drop_mid key _ _ _ m1 m2, from_pairs h k _ c key (chain_at hc).1 h5]
    congr 1
    have : ∀ e ∈ B, Tr.from h e.2 key = Tr.pairs h e.2 := by
      intro e he
      obtain ⟨⟨hi', w1⟩, _⟩ := chain_mem hc e (by simp [he])
      refine from_low h e.1 hi' e.2 key w1 ?_
      have hk2 : inHi (hiOf none B) key := h6
      obtain ⟨B1, B2, rfl⟩ := List.append_of_mem he
      cases B1 with
      | nil => exact hk2 _ rfl
      | cons b B1 =>
        have hb : slt key b.1 = true := hk2 _ rfl
        have hcb := (chain_split (A := A ++ [(k, c)]) (B := (b :: B1) ++ e :: B2) (by simpa using hc) (by simp) (by simp)).2.2.2
        exact slt_trans hb (chain_low hcb e (by simp))
    exact flatMap_same this
end Go.Proofs.YtemondlgcmpbbaaGreatDoor

/- Tree.Get. -/
namespace Go.Proofs.YtemondlgcmpbbaaGreatDoor
open Go.RowKit

/-- The tree t, its root's pointer rp. -/
def TreeV (ok : Nat → Prop) (w : World) (t : Tree) (rp : Value) (ds : List Nat) : Prop := (t.root = none ∧ rp = .pointer none ∧ ds = []) ∨ ∃ h n b, t.root = some ⟨h, n⟩ ∧ rp = P b ∧ FRep ok w h n b ds
def treeV (rp : Value) (keys : Nat) : Value := .agg #[rp, .int .i64 keys]

theorem TreeV.move {ok ok' : Nat → Prop} {w w' : World} {t : Tree} {rp : Value} {ds : List Nat} (h : TreeV ok w t rp ds) (ha : Agree ok w w') (hs : ∀ x, ok x → ok' x) : TreeV ok' w' t rp ds :=
  h.imp id fun ⟨h, n, b, e1, e2, e3⟩ => ⟨h, n, b, e1, e2, e3.move ha hs⟩
theorem TreeV.below {ok ok' : Nat → Prop} {w w' : World} {t : Tree} {rp : Value} {ds : List Nat} (h : TreeV ok w t rp ds) (hb : Below w.heap.size w w') (hs : ∀ x, ok x → ok' x) : TreeV ok' w' t rp ds :=
  h.imp id fun ⟨h, n, b, e1, e2, e3⟩ => ⟨h, n, b, e1, e2, e3.below hb hs⟩
theorem TreeV.ds {ok : Nat → Prop} {w : World} {t : Tree} {rp : Value} {ds : List Nat} (h : TreeV ok w t rp ds) : ∀ x ∈ ds, ok x ∧ x < w.heap.size := by
  rcases h with ⟨_, _, rfl⟩ | ⟨h, n, b, _, _, hf⟩
  · intro x hx; cases hx
  · exact FRep.ds hf

def getV (r : Option Str) : Value := .tuple #[.string (r.getD ByteArray.empty), .bool r.isSome]

theorem lookup_at {key v : Str} {es : List (Str × Str)} (h : lookup key es = some v) (hl : place key es < es.length) : es[place key es].2 = v := by
  unfold lookup at h
  rw [List.drop_eq_getElem_cons hl] at h
  simp only at h
  split at h
  · exact Option.some.inj h
  · cases h

/-- What holds on the way down: k branches are below. -/
def GetRel (key : Str) (res : Option Str) (w : World) (k : Nat) (p : Value) (wr : World) : Prop :=
  ∃ (n : Tr k) (b : Nat) (ds : List Nat) (lo : Str) (hi : Option Str), p = P b ∧ FRep (fun _ => True) wr k n b ds ∧ WF k lo hi n ∧ Top k n ∧ slt key lo = false ∧ Tr.get k n key = res ∧ (Tr.pairs k n).length ≤ 150 ∧ Below w.heap.size w wr

theorem get_none (keys : Nat) (key : Str) (w : World) : Calls Tryz.prog 56 #[treeV (.pointer none) keys, .string key] w fun e w' => e = .returned (getV none) ∧ Below w.heap.size w w' := by
  have hb0 : Below w.heap.size w (w.alloc (.cells #[.pointer none, .int .i64 keys] 88)) := (Below.refl _ _).alloc (Nat.le_refl _) _
  unfold treeV
  go_enter Tryz.func56, Tryz.ntmps56
  go_wp2
  refine wp_loop_rounds 1 ?_
  rw [rounds_succ]
  go_wp2
  go_ret2
  exact ⟨rfl, hb0⟩

set_option maxRecDepth 100000 in
set_option maxHeartbeats 1600000 in
theorem get_root (keys h b : Nat) (n : Tr h) (ds : List Nat) (key : Str) (w : World) (hf : FRep (fun _ => True) w h n b ds) (hw : WF h noKey none n) (ht : Top h n) (hp : (Tr.pairs h n).length ≤ 150) :
    Calls Tryz.prog 56 #[treeV (P b) keys, .string key] w fun e w' => e = .returned (getV (Tr.get h n key)) ∧ Below w.heap.size w w' := by
  have hb0 : Below w.heap.size w (w.alloc (.cells #[P b, .int .i64 keys] 88)) := (Below.refl _ _).alloc (Nat.le_refl _) _
  have hst : GetRel key (Tr.get h n key) w h (P b) (w.alloc (.cells #[P b, .int .i64 keys] 88)) := ⟨n, b, ds, _, _, rfl, hf.below hb0 (fun _ h => h), hw, ht, slt_empty key, rfl, hp, hb0⟩
  obtain ⟨res, hres⟩ : ∃ r, r = Tr.get h n key := ⟨_, rfl⟩
  rw [← hres] at hst ⊢
  have HST := hide hst
  clear hf hw ht hp hst hb0 hres
  unfold treeV P
  unfold P at HST
  go_enter Tryz.func56, Tryz.ntmps56
  go_wp2
  go_loopg [6] h (fun k p wr => GetRel key res w k p wr)
  case atStart => exact HST.out
  case round =>
    obtain ⟨n, b, ds, lo, hi, rfl, hf, hw, ht, hk, hg, hp, hb⟩ := hrel
    cases gk with
    | zero =>
      obtain ⟨A1, c1, A2, c2, hnd, _, _, _⟩ := hf
      have LEAF := hide (leaf_yes b (Nd.blk n) (Nd.gen n) c2 (Nd.dirty n) _ A2 wr hnd.node)
      have PLACE := hide (place_any n key b _ wr (show Rep wr 0 n b (dirtyAt (Nd.dirty n) b) from ⟨_, _, hnd.node, hnd.ps, hnd.ks, rfl⟩) hw.1 (Nat.le_trans hp (by omega)))
      have hblt : b < wr.heap.size := Blk.lt hnd.node
      have hgl : lookup key (Nd.es n) = res := hg
      obtain ⟨es, hes⟩ : ∃ es, es = Nd.es n := ⟨_, rfl⟩
      rw [← hes] at hgl PLACE
      have hlk : there key es = res.isSome := by rw [there_lookup, hgl]
      have hat := fun h => hnd.ps.cells_at (Below.refl wr.heap.size wr) (k := place key es) h
      rw [← hes] at hat
      have c3 : wr.cell? ⟨b, 3, none⟩ = some (.slice A1 es.length c1) := by rw [Blk.cell hnd.node, hes]; rfl
      have hpe := pcells_at es (place key es)
      have hlt := there_lt (key := key) (es := es)
      obtain ⟨i, hi'⟩ : ∃ i, i = place key es := ⟨_, rfl⟩
      rw [← hi'] at hat hpe hlt PLACE
      rw [hlk] at hlt PLACE
      have HG := hide hgl
      have HI := hide hi'
      have HB := hide hb
      have HND := hide hnd
      clear hw ht hk hg hp hb hnd hgl hi' hlk HST hes
      unfold P at *
      cases res with
      | none =>
        go_wp2_with (first
          | (go_at_call 81; refine LEAF.out.mono ?_; rintro e w' ⟨rfl, rfl⟩)
          | (go_at_call 83; refine PLACE.out.mono ?_; rintro e w2 ⟨rfl, hb2⟩))
        go_ret2
        exact ⟨rfl, HB.out.trans (hb2.mono HB.out.size)⟩
      | some v =>
        have hlt' := hlt rfl
        obtain ⟨g, o, u1, u2, rfl, hu1, hu2, hc1, hc2, hgl⟩ := hat hlt'
        have hv : es[i].2 = v := by
          have := lookup_at HG.out (by rw [← HI.out]; exact hlt')
          simpa [HI.out] using this
        have e2 := hu2.symm.trans (hpe hlt').2
        injection e2 with e2
        subst e2
        rw [hv] at hc2
        have k1 : (0 : Int) ≤ (i : Int) := by omega
        have k2 : (i : Int) < (es.length : Int) := by omega
        clear hat hpe hlt hu1 hu2 hv
        go_wp2_with (first
          | (go_at_call 81; refine LEAF.out.mono ?_; rintro e w' ⟨rfl, rfl⟩)
          | (go_at_call 83; go_loud (
             refine PLACE.out.mono ?_; rintro e w2 ⟨rfl, hb2⟩
             have d3 : w2.cell? ⟨b, 3, none⟩ = some (.slice (some ⟨g, o, none⟩) es.length c1) := (hb2.cell hblt).trans c3
             have d4 : w2.cell? ⟨g, o + i * 2 + 1, none⟩ = some (.string v) := (hb2.cell hgl).trans hc2)))
        go_ret2
        exact ⟨rfl, HB.out.trans (hb2.mono HB.out.size)⟩
    | succ k =>
      obtain ⟨A1, c1, A2, c2, bs, dss, hnd, _, _, hkk, _⟩ := hf
      have hc0 : Chain (WF k) lo hi (Nd.es n) := hw
      obtain ⟨A, ⟨kk, c⟩, B, hX, hl, h5, h6⟩ := below_at hc0 hk
      have hlen : (Nd.es n).length ≤ 150 := Nat.le_trans (few_els (k + 1) lo hi n hw ht).2.1 hp
      have hAl : A.length < (Nd.es n).length := by rw [hX]; simp
      have hbsl := hkk.len.1
      have hwc : WF k kk (hiOf hi B) c := by
        rw [hX] at hc0
        exact (chain_at hc0).1
      have htc : Top k c := top_kid ht (kk, c) (by rw [hX]; simp)
      have hpc : (Tr.pairs k c).length ≤ 150 := Nat.le_trans (kid_pairs (es := Nd.es n) (kk, c) (by rw [hX]; simp)) hp
      have hgc : Tr.get k c key = res := by
        rw [← hg]
        show _ = (match (Nd.es n).drop (below key (Nd.es n)) with | [] => none | e :: _ => Tr.get k e.2 key)
        rw [hl, hX, List.drop_left]
      have hk2 := hkk
      rw [hX] at hk2
      obtain ⟨bp, bc, bq, dp, dc, dq, hbs, hds, l1, l2, r1, r2, r3⟩ := RepL.cut hk2
      obtain ⟨g, o, u1, u2, rfl, hu1, hu2, hc1, hc2, hgl⟩ := hnd.ks.cells_at (Below.refl wr.heap.size wr) (k := A.length) hAl
      have hkc := (kcells_at (Nd.es n) bs A.length hAl (by omega)).2
      have hbc : bs[A.length]'(by omega) = bc := by
        subst hbs
        rw [List.getElem_append_right (by omega)]
        simp [l1]
      rw [hbc] at hkc
      have e2 := hu2.symm.trans hkc
      injection e2 with e2
      subst e2
      have c4 : wr.cell? ⟨b, 4, none⟩ = some (.slice (some ⟨g, o, none⟩) (Nd.es n).length c2) := by rw [Blk.cell hnd.node]; rfl
      have LEAF := hide (leaf_no b (Nd.blk n) (Nd.gen n) (Nd.es n).length c2 (Nd.dirty n) _ _ wr hnd.node (by omega) (by omega))
      have BELOW := hide (fun q => below_any (Nd.es n) bs key b (Nd.blk n) (Nd.gen n) c2 (Nd.dirty n) _ _ (wr.drewN q)
        (hnd.move (Agree.of_below (below_drewN (Below.refl wr.heap.size wr) q) (fun _ hx => hx)) (Blk.lt hnd.node) (rowOk.zero _ _) hnd.ks.row_lt).node
        (hnd.move (Agree.of_below (below_drewN (Below.refl wr.heap.size wr) q) (fun _ hx => hx)) (Blk.lt hnd.node) (rowOk.zero _ _) hnd.ks.row_lt).ks hbsl (by omega) (by omega))
      rw [hl] at BELOW
      obtain ⟨i, hi'⟩ : ∃ i, i = A.length := ⟨_, rfl⟩
      rw [← hi'] at BELOW hc2 hAl
      obtain ⟨N, hN⟩ : ∃ N, N = (Nd.es n).length := ⟨_, rfl⟩
      rw [← hN] at c4 hAl
      have k1 : (0 : Int) ≤ (i : Int) := by omega
      have k2 : (i : Int) < (N : Int) := by omega
      have HREL := hide (show ∀ q, GetRel key res w k (P bc) (wr.drewN q) from fun q => ⟨c, bc, dc, kk, hiOf hi B, rfl, r2.below (below_drewN (Below.refl _ _) q) (fun _ h => h), hwc, htc, h5, hgc, hpc, hb.trans ((below_drewN (Below.refl _ _) q).mono hb.size)⟩)
      have HREL' := HREL
      clear hw ht hk hg hp hb hnd hkk hc0 hX hl h5 h6 hbsl hwc htc hpc hgc hk2 hbs hds l1 l2 r1 r2 r3 hu1 hu2 hc1 hkc hbc HST hi' hN HREL'
      unfold P at *
      go_upto_region 3 with (first | (go_at_call 81; refine LEAF.out.mono ?_; rintro e w' ⟨rfl, rfl⟩))
      go_quiet (first | (go_at_call 82; exact quiet_same (BELOW.out _)))
      go_wp2
      go_roundg k
      case measure => omega
      case rel => exact HREL.out _

/-- Tree.Get. -/
theorem get_any {ok : Nat → Prop} (t : Tree) (rp : Value) (ds : List Nat) (key : Str) (w : World) (hv : TreeV ok w t rp ds) (ht : TR t) (hp : t.pairs.length ≤ 150) :
    Calls Tryz.prog 56 #[treeV rp t.keys, .string key] w fun e w' => e = .returned (getV (t.get key)) ∧ Below w.heap.size w w' := by
  rcases hv with ⟨hr, rfl, _⟩ | ⟨h, n, b, hr, rfl, hf⟩
  · have : t.get key = none := by unfold Tree.get; rw [hr]
    rw [this]
    exact get_none _ _ _
  · have : t.get key = Tr.get h n key := by unfold Tree.get; rw [hr]
    rw [this]
    have hpp : t.pairs = Tr.pairs h n := by unfold Tree.pairs; rw [hr]
    exact get_root _ _ _ n ds key w (hf.more fun _ _ => trivial) (ht.tw.some_ h n hr) (ht.top h n hr) (by rw [← hpp]; exact hp)
end Go.Proofs.YtemondlgcmpbbaaGreatDoor

/- Shared by the two walks through a tree's pairs. -/
namespace Go.Proofs.YtemondlgcmpbbaaGreatDoor
open Go.RowKit

theorem take_snoc {α : Type} {l : List α} {k : Nat} (h : k < l.length) : l.take (k + 1) = l.take k ++ [l[k]] := by
  rw [List.take_add_one, List.getElem?_eq_getElem h]; rfl
theorem Below.from_alloc {n₀ : Nat} {W w w' : World} {o : Obj} (h : Below n₀ (w.alloc o) w') (_hb : Below n₀ W w) (hn : n₀ ≤ w.heap.size) : Below n₀ w w' := ((Below.refl n₀ w).alloc hn o).trans h
/-- The pairs of a tree from a key on. -/
def fromK (t : Tree) (lo : Str) : List (Str × Str) := t.pairs.drop (place lo t.pairs)

end Go.Proofs.YtemondlgcmpbbaaGreatDoor
