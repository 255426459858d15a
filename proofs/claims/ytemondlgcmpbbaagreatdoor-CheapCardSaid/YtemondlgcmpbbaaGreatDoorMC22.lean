/- Wl Wm Wn: merged. -/
import Derived.Test.YtemondlgcmpbbaaGreatDoorMC20
import Derived.Test.YtemondlgcmpbbaaGreatDoorMC21
import Derived.Deep.DeepCutAuto
/- Join and Split of trees in memory, with the blocks that they lie in. -/
namespace Go.Proofs.YtemondlgcmpbbaaGreatDoor
open Go.RowKit

def up (ok : Nat → Prop) (B : Nat) : Nat → Prop := fun x => ok x ∨ B ≤ x

theorem FRep.below {ok ok' : Nat → Prop} {w w' : World} {h : Nat} {t : Tr h} {b : Nat} {ds : List Nat} (hf : FRep ok w h t b ds) (hb : Below w.heap.size w w') (hs : ∀ x, ok x → ok' x) : FRep ok' w' h t b ds :=
  hf.lt.move (Agree.of_below hb fun _ hx => hx.2) fun x hx => hs x hx.1
theorem RepL.below {ok ok' : Nat → Prop} {w w' : World} {h : Nat} {es : List (Str × Tr h)} {bs : List Nat} {dss : List (List Nat)} (hf : RepL (FRep ok w h) es bs dss) (hb : Below w.heap.size w w') (hs : ∀ x, ok x → ok' x) : RepL (FRep ok' w' h) es bs dss :=
  hf.mono fun _ _ _ hk => hk.below hb hs
theorem up_l {ok : Nat → Prop} {B : Nat} : ∀ x, ok x → up ok B x := fun _ h => .inl h
theorem up_r {ok : Nat → Prop} {B : Nat} (P : Nat → Prop) : ∀ x, B ≤ x → P x → up ok B x := fun _ h _ => .inr h

theorem own_none (w : World) (base : Nat) (T : TypeId) : w.ownsRow base T 2 (.slice none 0 0) 0 [] := ⟨rfl, .inl ⟨rfl, rfl⟩⟩
theorem pcells_append (a b : List (Str × Str)) : pcells (a ++ b) = pcells a ++ pcells b := by simp [pcells]
theorem rekey_length {K : Type} (k : Str) (es : List (Str × K)) : (rekey k es).length = es.length := by cases es <;> rfl
theorem RepL.rekey {K : Type} {R : K → Nat → List Nat → Prop} (k : Str) {es : List (Str × K)} {bs : List Nat} {dss : List (List Nat)} (h : RepL R es bs dss) : RepL R (rekey k es) bs dss := by
  cases es with
  | nil => exact h
  | cons e es =>
    cases bs with
    | nil => exact h.elim
    | cons b bs =>
      cases dss with
      | nil => exact h.elim
      | cons d dss => exact h

theorem join_f {ok : Nat → Prop} : ∀ (h : Nat) (t1 t2 : Tr h) (k : Str) (b1 b2 : Nat) (d1 d2 : List Nat) (w : World), FRep ok w h t1 b1 d1 → FRep ok w h t2 b2 d2 → Tr.len h t1 ≤ 400 → Tr.len h t2 ≤ 400 → (1 ≤ Tr.len h t1 ∨ h = 0) → (1 ≤ Tr.len h t2 ∨ h = 0) →
    Calls Tryz.prog 162 #[P b1, .agg #[.string k, P b2]] w fun e w' => ∃ b' e1 e2, e = .returned (P b') ∧ FRep (up ok w.heap.size) w' h (Tr.join h t1 k t2) b' (e1 ++ e2 ++ [b']) ∧ e1 ++ dirtyAt (Tr.dirty h t1) b1 = d1 ∧ e2 ++ dirtyAt (Tr.dirty h t2) b2 = d2 ∧ w.heap.size ≤ b' ∧ Below w.heap.size w w'
  | 0, t1, t2, k, b1, b2, d1, d2, w, ⟨A1, c1, A2, c2, hn, hb, hr, hd⟩, ⟨A1', c1', A2', c2', hn', hb', hr', hd'⟩, l1, l2, _, _ => by
    refine (join_walk0 (Nd.es t1) (Nd.es t2) k b1 _ _ c1 c2 b2 _ _ c1' c2' _ _ A1 A2 A1' A2' w hn hn' l1 l2).mono ?_
    rintro e w' ⟨b', B1, g1, B2, g2, rfl, x1, x2, x3, x4, x5⟩
    refine ⟨b', [], [], rfl, ?_, hd.symm, hd'.symm, x4, x5⟩
    rw [← pcells_append] at x2
    exact FRep.mk_leaf (es := Nd.es t1 ++ Nd.es t2) (by rw [List.length_append]) x1 x2 x3 x4 fun _ hx _ => .inr hx
  | h + 1, t1, t2, k, b1, b2, d1, d2, w, ⟨A1, c1, A2, c2, bs, dss, hn, hb, hr, hk, hd⟩, ⟨A1', c1', A2', c2', bs', dss', hn', hb', hr', hk', hd'⟩, l1, l2, p1, p2 => by
    have p1' : 1 ≤ (Nd.es t1).length := by rcases p1 with p | p; exact p; cases p
    have p2' : 1 ≤ (Nd.es t2).length := by rcases p2 with p | p; exact p; cases p
    refine (join_walk1 (Nd.es t1) (Nd.es t2) bs bs' hk.len.1 hk'.len.1 k b1 _ _ c2 c1 b2 _ _ c2' c1' _ _ A2 A1 A2' A1' w hn hn' l1 l2 p1' p2').mono ?_
    rintro e w' ⟨b', B1, g1, B2, g2, rfl, x1, x2, x3, x4, x5⟩
    refine ⟨b', dss.flatten, dss'.flatten, rfl, ?_, hd.symm, hd'.symm, x4, x5⟩
    rw [← List.flatten_append]
    exact FRep.mk_branch (es := Nd.es t1 ++ rekey k (Nd.es t2)) (by rw [List.length_append, rekey_length]) x1 x2 x3 x4 (fun _ hx _ => .inr hx) ((hk.below x5 up_l).append ((hk'.below x5 up_l).rekey k))

theorem split_f {ok : Nat → Prop} : ∀ (h : Nat) (t : Tr h) (b : Nat) (ds : List Nat) (w : World), FRep ok w h t b ds → 2 ≤ Tr.len h t → Tr.len h t ≤ 1000 → Tr.size h t ≤ 100000 →
    Calls Tryz.prog 86 #[P b] w fun e w' => ∃ b1 b2 d1 d2, e = .returned (.tuple #[P b1, .agg #[.string (Tr.split h t).2.1, P b2]]) ∧ FRep (up ok w.heap.size) w' h (Tr.split h t).1 b1 (d1 ++ [b1]) ∧ FRep (up ok w.heap.size) w' h (Tr.split h t).2.2 b2 (d2 ++ [b2]) ∧ d1 ++ d2 ++ dirtyAt (Tr.dirty h t) b = ds ∧
      w.heap.size ≤ b1 ∧ w.heap.size ≤ b2 ∧ b1 ≠ b2 ∧ Below w.heap.size w w'
  | 0, t, b, ds, w, ⟨A1, c1, A2, c2, hn', hb, hr, hds⟩, h1, hn, hs => by
    change 2 ≤ (Nd.es t).length at h1
    change (Nd.es t).length ≤ 1000 at hn
    change ((Nd.es t).map lsz).sum ≤ 100000 at hs
    obtain ⟨g, o, u, v, hA, _, _, _, _, hg⟩ := hn'.ps.cells_at (Below.refl _ _) (k := 0) (by omega)
    subst hA
    obtain ⟨_, _, _, hve, hnc, hcm, _, _⟩ := hn'.ps
    injection hve with _ _ hce
    subst hce
    obtain ⟨k1, k2⟩ := half_bounds ((Nd.es t).map lsz) (by simpa using h1)
    rw [List.length_map] at k2
    refine (split_walk0 (Nd.es t) b (Nd.blk t) (Nd.gen t) g o c1 _ c2 (Nd.dirty t) A2 w hn'.node hn'.ps rfl k1 k2 hnc hcm hn hs).mono ?_
    rintro e w' ⟨A1', d1, A2', d2, rfl, x1, x2, x3, x4, x5⟩
    refine ⟨_, _, [], [], rfl, ?_, ?_, hds.symm, by omega, by omega, by omega, x5⟩
    · exact FRep.mk_leaf (by rw [List.length_take, Nat.min_eq_left (by omega)]) x1 x3 (own_none _ _ _) (by omega) fun _ hx _ => .inr hx
    · exact FRep.mk_leaf (by rw [List.length_drop]) x2 x4 (own_none _ _ _) (by omega) fun _ hx _ => .inr hx
  | h + 1, t, b, ds, w, ⟨A1, c1, A2, c2, bs, dss, hn', hb, hr, hrl, hds⟩, h1, hn, hs => by
    change 2 ≤ (Nd.es t).length at h1
    change (Nd.es t).length ≤ 1000 at hn
    change ((Nd.es t).map ksz).sum ≤ 100000 at hs
    obtain ⟨g, o, u, v, hA, _, _, _, _, hg⟩ := hn'.ks.cells_at (Below.refl _ _) (k := 0) (by omega)
    subst hA
    obtain ⟨_, _, _, hve, hnc, hcm, _, _⟩ := hn'.ks
    injection hve with _ _ hce
    subst hce
    obtain ⟨k1, k2⟩ := half_bounds ((Nd.es t).map ksz) (by simpa using h1)
    rw [List.length_map] at k2
    refine (split_walk1 (Nd.es t) bs hrl.len.1 b (Nd.blk t) (Nd.gen t) g o c2 _ c1 (Nd.dirty t) A1 w hn'.node hn'.ks rfl k1 k2 hnc hcm hn hs).mono ?_
    rintro e w' ⟨A1', d1, A2', d2, rfl, x1, x2, x3, x4, x5⟩
    have hrl' := hrl.below x5 (ok' := up ok w.heap.size) up_l
    refine ⟨_, _, (dss.take (half ((Nd.es t).map ksz))).flatten, (dss.drop (half ((Nd.es t).map ksz))).flatten, rfl, ?_, ?_, ?_, by omega, by omega, by omega, x5⟩
    · exact FRep.mk_branch (by rw [List.length_take, Nat.min_eq_left (by omega)]) x1 (own_none _ _ _) x3 (by omega) (fun _ hx _ => .inr hx) (hrl'.take _)
    · exact FRep.mk_branch (by rw [List.length_drop]) x2 (own_none _ _ _) x4 (by omega) (fun _ hx _ => .inr hx) (hrl'.drop _)
    · rw [← List.flatten_append, List.take_append_drop]; exact hds.symm

end Go.Proofs.YtemondlgcmpbbaaGreatDoor

/- A branch that is being written: its own rows, its children elsewhere. -/
namespace Go.Proofs.YtemondlgcmpbbaaGreatDoor
open Go.RowKit

/-- What the children of the node at b (its row of children at A) may lie in. -/
def fp (pk : Nat → Prop) (b : Nat) (A : Option Addr) : Nat → Prop := fun x => pk x ∧ x ≠ b ∧ ∀ a, A = some a → x ≠ a.block

structure Opn (pk : Nat → Prop) (base : Nat) (w : World) (h b : Nat) (es : List (Str × Tr h)) (bs : List Nat) (dss : List (List Nat)) (A1 : Option Addr) (c1 : Nat) (A2 : Option Addr) (n c2 : Nat) : Prop where
  len : n = es.length
  node : Blk w b 137 #[.int .i64 0, .int .u32 0, .bool true, .slice A1 0 c1, .slice A2 n c2]
  ps : w.ownsRow base 68 2 (.slice A1 0 c1) 0 []
  ks : w.ownsRow base 139 2 (.slice A2 n c2) n (kcells es bs)
  hb : base ≤ b
  kids : RepL (FRep (fp pk b A2) w h) es bs dss

theorem own_set {w : World} {base n c g j : Nat} {T : TypeId} {xs : List Value} (h : w.ownsRow base T 2 (.slice (some ⟨g, 0, none⟩) n c) n xs) (_hj : j < n * 2) (u : Value) :
    (w.setCell ⟨g, j, none⟩ u).ownsRow base T 2 (.slice (some ⟨g, 0, none⟩) n c) n (xs.set j u) := by
  obtain ⟨hl, hd⟩ := h
  rcases hd with ⟨h0, _⟩ | ⟨g', cap, cur, hv, hb, hg, hnc, hcm, hcs, hx⟩
  · cases h0
  · injection hv with hv _ hc
    injection hv with hv
    injection hv with hv
    subst hv
    subst hc
    refine ⟨by rw [List.length_set]; exact hl, .inr ⟨g, c, cur.setIfInBounds j u, rfl, hb, Blk.set_ (t := T) hg j u, hnc, hcm, by simpa using hcs, ?_⟩⟩
    rw [← hx]
    simp only [Array.toList_setIfInBounds]
    rw [List.take_set]

theorem own_row {w : World} {base n c : Nat} {T : TypeId} {A : Option Addr} {xs : List Value} (h : w.ownsRow base T 2 (.slice A n c) n xs) (hn : 0 < n) : ∃ g cur, A = some ⟨g, 0, none⟩ ∧ base ≤ g ∧ Blk w g T cur ∧ cur.toList.take (n * 2) = xs ∧ cur.size = c * 2 ∧ n ≤ c ∧ c ≤ maxLen := by
  obtain ⟨hl, hd⟩ := h
  rcases hd with ⟨_, h0⟩ | ⟨g', cap, cur, hv, hb, hg, hnc, hcm, hcs, hx⟩
  · omega
  · injection hv with hv _ hc
    subst hc
    exact ⟨g', cur, hv, hb, hg, hx, hcs, hnc, hcm⟩

theorem RepL.set {K : Type} {R : K → Nat → List Nat → Prop} : ∀ {pre post : List (Str × K)} {k : Str} {c t : K} {bs : List Nat} {dss : List (List Nat)} {b : Nat} {d : List Nat}, RepL R (pre ++ (k, c) :: post) bs dss → R t b d → RepL R (pre ++ (k, t) :: post) (bs.set pre.length b) (dss.set pre.length d)
  | [], _, _, _, _, _ :: _, _ :: _, _, _, h, ht => ⟨ht, h.2⟩
  | [], _, _, _, _, [], _, _, _, h, _ => h.elim
  | [], _, _, _, _, _ :: _, [], _, _, h, _ => h.elim
  | _ :: _, _, _, _, _, [], _, _, _, h, _ => h.elim
  | _ :: _, _, _, _, _, _ :: _, [], _, _, h, _ => h.elim
  | _ :: _, _, _, _, _, _ :: _, _ :: _, _, _, h, ht => ⟨h.1, RepL.set h.2 ht⟩

theorem RepL.at_ {K : Type} {R : K → Nat → List Nat → Prop} : ∀ {es : List (Str × K)} {bs : List Nat} {dss : List (List Nat)}, RepL R es bs dss → ∀ (i : Nat) (h1 : i < es.length) (h2 : i < bs.length) (h3 : i < dss.length), R es[i].2 bs[i] dss[i]
  | _ :: _, _ :: _, _ :: _, h, 0, _, _, _ => h.1
  | _ :: _, _ :: _, _ :: _, h, i + 1, h1, h2, h3 => RepL.at_ h.2 i (by simpa using h1) (by simpa using h2) (by simpa using h3)
  | [], _, _, _, i, h1, _, _ => by simp at h1
  | _ :: _, [], _, _, i, _, h2, _ => by simp at h2
  | _ :: _, _ :: _, [], _, i, _, _, h3 => by simp at h3

theorem kcells_set {K : Type} : ∀ (pre post : List (Str × K)) (k : Str) (c t : K) (bs : List Nat) (b : Nat), bs.length = (pre ++ (k, c) :: post).length → (kcells (pre ++ (k, c) :: post) bs).set (pre.length * 2 + 1) (P b) = kcells (pre ++ (k, t) :: post) (bs.set pre.length b)
  | [], _, _, _, _, [], _, h => by simp at h
  | [], post, k, c, t, b0 :: bs, b, h => by simp [kcells]
  | _ :: _, _, _, _, _, [], _, h => by simp at h
  | e :: pre, post, k, c, t, b0 :: bs, b, h => by
    have := kcells_set pre post k c t bs b (by simpa using h)
    simp only [List.cons_append, List.length_cons, List.set_cons_succ, show (pre.length + 1) * 2 + 1 = pre.length * 2 + 1 + 1 + 1 by omega, kcells]
    rw [this]

section
variable {pk : Nat → Prop} {base : Nat} {w w' : World} {h b : Nat} {es : List (Str × Tr h)} {bs : List Nat} {dss : List (List Nat)} {A1 A2 : Option Addr} {n c1 c2 : Nat}

theorem Opn.below (o : Opn pk base w h b es bs dss A1 c1 A2 n c2) (hb : Below w.heap.size w w') : Opn pk base w' h b es bs dss A1 c1 A2 n c2 :=
  ⟨o.len, o.node.below hb o.node.lt, own_below o.ps hb, own_below o.ks hb, o.hb, o.kids.below hb fun _ hx => hx⟩

/-- One child is another. -/
theorem Opn.setKid {pre post : List (Str × Tr h)} {k : Str} {c t : Tr h} {bt : Nat} {dt : List Nat} {g : Nat} (o : Opn pk base w h b (pre ++ (k, c) :: post) bs dss A1 c1 (some ⟨g, 0, none⟩) n c2) (ht : FRep (fp pk b (some ⟨g, 0, none⟩)) w h t bt dt) :
    Opn pk base (w.setCell ⟨g, pre.length * 2 + 1, none⟩ (P bt)) h b (pre ++ (k, t) :: post) (bs.set pre.length bt) (dss.set pre.length dt) A1 c1 (some ⟨g, 0, none⟩) n c2 := by
  have hn := o.len
  simp only [List.length_append, List.length_cons] at hn
  obtain ⟨g', cur, hA, _, hgb, _⟩ := own_row o.ks (by omega)
  injection hA with hA
  injection hA with hA
  subst hA
  have hgn : b ≠ g := o.node.ne_ hgb (by decide)
  have hag : Agree (fp pk b (some ⟨g, 0, none⟩)) w (w.setCell ⟨g, pre.length * 2 + 1, none⟩ (P bt)) := Agree.setCell w _ _ fun hx => hx.2.2 _ rfl rfl
  refine ⟨by rw [o.len]; simp, o.node.far hgn _, ownsRow_setCell_other o.ps (own_blk_ne o.ps hgb (by decide)) _, ?_, o.hb, ?_⟩
  · have := own_set o.ks (j := pre.length * 2 + 1) (by omega) (P bt)
    rw [kcells_set pre post k c t bs bt o.kids.len.1] at this
    exact this
  · exact (o.kids.mono fun _ _ _ hk => hk.move hag fun _ hx => hx).set (ht.move hag fun _ hx => hx)

/-- Another row of children. -/
theorem Opn.row {es' : List (Str × Tr h)} {bs' : List Nat} {dss' : List (List Nat)} {A' : Option Addr} {n' c' : Nat} (o : Opn pk base w h b es bs dss A1 c1 A2 n c2) (hg : w.grownBy w' (Value.slice A2 n c2).ownBlock) (hn : n' = es'.length)
    (hr : w'.ownsRow base 139 2 (.slice A' n' c') n' (kcells es' bs')) (hat : (Value.slice A' n' c').ownBlock = (Value.slice A2 n c2).ownBlock ∨ ∃ g', (Value.slice A' n' c').ownBlock = some g' ∧ w.heap.size ≤ g') (hk : RepL (FRep (fp pk b A2) w h) es' bs' dss') :
    Opn pk base (w'.setCell ⟨b, 4, none⟩ (.slice A' n' c')) h b es' bs' dss' A1 c1 A' n' c' := by
  have hnb : some b ≠ (Value.slice A2 n c2).ownBlock := fun e => own_blk_ne o.ks o.node (by decide) e.symm
  have hb' := o.node.grown hg hnb
  have hp' : w'.ownsRow base 68 2 (.slice A1 0 c1) 0 [] := World.ownsRow.kept o.ps hg (rows_ne o.ps o.ks (by decide))
  have hag : Agree (fun x => fp pk b A2 x ∧ x < w.heap.size) w (w'.setCell ⟨b, 4, none⟩ (.slice A' n' c')) :=
    Agree.trans (Agree.grown hg fun x hx => ⟨hx.2, fun e => by
      cases A2 with
      | none => cases e
      | some a => exact hx.1.2.2 a rfl (by simpa [Value.ownBlock] using e)⟩) (Agree.setCell w' _ _ fun hx => hx.1.2.1 rfl)
  refine ⟨hn, hb'.set_ 4 _, ownsRow_setCell_other hp' (own_blk_ne hp' hb' (by decide)) _, ownsRow_setCell_other hr (own_blk_ne hr hb' (by decide)) _, o.hb, ?_⟩
  refine hk.mono fun _ _ _ hk => hk.lt.move hag fun x hx => ⟨hx.1.1, hx.1.2.1, fun a ha => ?_⟩
  subst ha
  rcases hat with e | ⟨g', e, hge⟩
  · cases A2 with
    | none => cases e
    | some a2 =>
      have : a.block = a2.block := by simpa [Value.ownBlock] using e
      rw [this]
      exact hx.1.2.2 _ rfl
  · have : a.block = g' := by simpa [Value.ownBlock] using e
    have := hx.2
    omega
end

end Go.Proofs.YtemondlgcmpbbaaGreatDoor

/- tree.mend: the walk. -/
namespace Go.Proofs.YtemondlgcmpbbaaGreatDoor
open Go.RowKit

theorem RepL.cut {K : Type} {R : K → Nat → List Nat → Prop} : ∀ {pre post : List (Str × K)} {k : Str} {c : K} {bs : List Nat} {dss : List (List Nat)}, RepL R (pre ++ (k, c) :: post) bs dss →
    ∃ bp bc bq dp dc dq, bs = bp ++ bc :: bq ∧ dss = dp ++ dc :: dq ∧ bp.length = pre.length ∧ dp.length = pre.length ∧ RepL R pre bp dp ∧ R c bc dc ∧ RepL R post bq dq
  | [], _, _, _, b :: bs, d :: dss, h => ⟨[], b, bs, [], d, dss, rfl, rfl, rfl, rfl, trivial, h.1, h.2⟩
  | [], _, _, _, [], _, h => h.elim
  | [], _, _, _, _ :: _, [], h => h.elim
  | _ :: _, _, _, _, [], _, h => h.elim
  | _ :: _, _, _, _, _ :: _, [], h => h.elim
  | _ :: pre, _, _, _, b :: bs, d :: dss, h => by
    obtain ⟨bp, bc, bq, dp, dc, dq, rfl, rfl, h1, h2, h3, h4, h5⟩ := RepL.cut h.2
    exact ⟨b :: bp, bc, bq, d :: dp, dc, dq, rfl, rfl, by simp [h1], by simp [h2], ⟨h.1, h3⟩, h4, h5⟩

theorem dirtyAt_mem {d : Bool} {b x : Nat} (h : x ∈ dirtyAt d b) : x = b := by
  unfold dirtyAt at h
  split at h
  · simpa using h
  · simp at h

theorem RepL.ds {K : Type} {R : K → Nat → List Nat → Prop} {P : Nat → Prop} (hR : ∀ k b d, R k b d → ∀ x ∈ d, P x) : ∀ {es : List (Str × K)} {bs : List Nat} {dss : List (List Nat)}, RepL R es bs dss → ∀ x ∈ dss.flatten, P x
  | [], [], [], _, x, hx => by simp at hx
  | _ :: _, _ :: _, d :: dss, h, x, hx => by
    rw [List.flatten_cons, List.mem_append] at hx
    rcases hx with hx | hx
    · exact hR _ _ _ h.1 x hx
    · exact RepL.ds hR h.2 x hx
  | [], [], _ :: _, h, _, _ => h.elim
  | [], _ :: _, _, h, _, _ => h.elim
  | _ :: _, [], _, h, _, _ => h.elim
  | _ :: _, _ :: _, [], h, _, _ => h.elim

/-- The dirty nodes' blocks are blocks that the tree may lie in, and they are there. -/
theorem FRep.ds {ok : Nat → Prop} {w : World} : ∀ {h : Nat} {t : Tr h} {b : Nat} {ds : List Nat}, FRep ok w h t b ds → ∀ x ∈ ds, ok x ∧ x < w.heap.size
  | 0, _, _, _, ⟨A1, c1, A2, c2, hn, hb, hr, hd⟩, x, hx => by
    rw [hd] at hx
    rw [dirtyAt_mem hx]
    exact ⟨hb, Blk.lt hn.node⟩
  | _ + 1, _, _, _, ⟨A1, c1, A2, c2, bs, dss, hn, hb, hr, hk, hd⟩, x, hx => by
    rw [hd, List.mem_append] at hx
    rcases hx with hx | hx
    · exact hk.ds (fun _ _ _ hk => FRep.ds hk) x hx
    · rw [dirtyAt_mem hx]
      exact ⟨hb, Blk.lt hn.node⟩

theorem Opn.cells {pk : Nat → Prop} {base : Nat} {w : World} {h b : Nat} {pre post : List (Str × Tr h)} {k : Str} {c : Tr h} {bp bq : List Nat} {bt : Nat} {dss : List (List Nat)} {A1 : Option Addr} {g n c1 c2 : Nat}
    (o : Opn pk base w h b (pre ++ (k, c) :: post) (bp ++ bt :: bq) dss A1 c1 (some ⟨g, 0, none⟩) n c2) (hl : bp.length = pre.length) : w.cell? ⟨g, pre.length * 2, none⟩ = some (.string k) ∧ w.cell? ⟨g, pre.length * 2 + 1, none⟩ = some (P bt) := by
  have hn := o.len
  simp only [List.length_append, List.length_cons] at hn
  obtain ⟨g', cur, hA, _, hgb, hx, _⟩ := own_row o.ks (by omega)
  injection hA with hA
  injection hA with hA
  subst hA
  have hc := kcells_at (pre ++ (k, c) :: post) (bp ++ bt :: bq) pre.length (by simp) (by simp; omega)
  rw [← hx] at hc
  rw [hgb.cell, hgb.cell]
  have h1 : (pre ++ (k, c) :: post)[pre.length]'(by simp) = (k, c) := by simp
  have h2 : (bp ++ bt :: bq)[pre.length]'(by simp; omega) = bt := by
    rw [List.getElem_append_right (by omega)]
    simp [hl]
  rw [h1, h2, List.getElem?_take, List.getElem?_take, if_pos (by omega), if_pos (by omega)] at hc
  simpa using hc

theorem kcells_insert {K : Type} : ∀ (pre post : List (Str × K)) (k : Str) (c : K) (k2 : Str) (d : K) (bp bq : List Nat) (b1 b2 : Nat), bp.length = pre.length → 
    (kcells (pre ++ (k, c) :: post) (bp ++ b1 :: bq)).take (pre.length * 2 + 2) ++ [.string k2, P b2] ++ (kcells (pre ++ (k, c) :: post) (bp ++ b1 :: bq)).drop (pre.length * 2 + 2) = kcells (pre ++ (k, c) :: (k2, d) :: post) (bp ++ b1 :: b2 :: bq)
  | [], post, k, c, k2, d, [], bq, b1, b2, _ => by simp [kcells]
  | [], _, _, _, _, _, _ :: _, _, _, _, h => by simp at h
  | _ :: _, _, _, _, _, _, [], _, _, _, h => by simp at h
  | e :: pre, post, k, c, k2, d, b0 :: bp, bq, b1, b2, h => by
    have := kcells_insert pre post k c k2 d bp bq b1 b2 (by simpa using h)
    simp only [List.cons_append, List.length_cons, kcells, show (pre.length + 1) * 2 + 2 = pre.length * 2 + 2 + 1 + 1 by omega, List.take_succ_cons, List.drop_succ_cons, List.append_assoc] at this ⊢
    rw [this]
theorem kcells_delete {K : Type} : ∀ (pre post : List (Str × K)) (k k2 : Str) (c d : K) (bp bq : List Nat) (b1 b2 : Nat), bp.length = pre.length →
    (kcells (pre ++ (k, c) :: (k2, d) :: post) (bp ++ b1 :: b2 :: bq)).take (pre.length * 2 + 2) ++ (kcells (pre ++ (k, c) :: (k2, d) :: post) (bp ++ b1 :: b2 :: bq)).drop (pre.length * 2 + 2 + 2) = kcells (pre ++ (k, c) :: post) (bp ++ b1 :: bq)
  | [], post, k, k2, c, d, [], bq, b1, b2, _ => by simp [kcells]
  | [], _, _, _, _, _, _ :: _, _, _, _, h => by simp at h
  | _ :: _, _, _, _, _, _, [], _, _, _, h => by simp at h
  | e :: pre, post, k, k2, c, d, b0 :: bp, bq, b1, b2, h => by
    have := kcells_delete pre post k k2 c d bp bq b1 b2 (by simpa using h)
    simp only [List.cons_append, List.length_cons, kcells, show (pre.length + 1) * 2 + 2 = pre.length * 2 + 2 + 1 + 1 by omega, show pre.length * 2 + 2 + 1 + 1 + 2 = pre.length * 2 + 2 + 2 + 1 + 1 by omega, List.take_succ_cons, List.drop_succ_cons] at this ⊢
    rw [this]

theorem RepL.join2 {K : Type} {R : K → Nat → List Nat → Prop} {pre post : List (Str × K)} {bp bq : List Nat} {dp dq : List (List Nat)} {k : Str} {c : K} {bc : Nat} {dc : List Nat} (h1 : RepL R pre bp dp) (h2 : R c bc dc) (h3 : RepL R post bq dq) : RepL R (pre ++ (k, c) :: post) (bp ++ bc :: bq) (dp ++ dc :: dq) :=
  h1.append ⟨h2, h3⟩
theorem RepL.cut2 {K : Type} {R : K → Nat → List Nat → Prop} : ∀ {pre post : List (Str × K)} {k : Str} {c : K} {bp bq : List Nat} {bc : Nat} {dp dq : List (List Nat)} {dc : List Nat}, RepL R (pre ++ (k, c) :: post) (bp ++ bc :: bq) (dp ++ dc :: dq) → bp.length = pre.length → dp.length = pre.length → RepL R pre bp dp ∧ R c bc dc ∧ RepL R post bq dq
  | [], _, _, _, [], _, _, [], _, _, h, _, _ => ⟨trivial, h.1, h.2⟩
  | [], _, _, _, _ :: _, _, _, _, _, _, _, h1, _ => by simp at h1
  | [], _, _, _, [], _, _, _ :: _, _, _, _, _, h2 => by simp at h2
  | _ :: _, _, _, _, [], _, _, _, _, _, _, h1, _ => by simp at h1
  | _ :: _, _, _, _, _ :: _, _, _, [], _, _, _, _, h2 => by simp at h2
  | _ :: _, _, _, _, _ :: _, _, _, _ :: _, _, _, h, h1, h2 => by
    obtain ⟨x, y, z⟩ := RepL.cut2 h.2 (by simpa using h1) (by simpa using h2)
    exact ⟨⟨h.1, x⟩, y, z⟩
theorem set_mid {α : Type} (a b : List α) (x y : α) (i : Nat) (h : a.length = i) : (a ++ x :: b).set i y = a ++ y :: b := by
  subst h
  simp

theorem delete_kid_own (base n c i : Nat) (A : Option Addr) (xs : List Value) (w : World) (hown : w.ownsRow base 139 2 (.slice A n c) n xs) (hi : i + 1 ≤ n) (hn : n ≤ 1000) (h1 : ∀ u ∈ xs, u.oneCell' = true) :
    Calls Tryz.prog 163 #[.slice A n c, .int .i64 i, .int .i64 (i + 1)] w fun e w' => e = .returned (.slice A (n - 1) c) ∧ w'.ownsRow base 139 2 (.slice A (n - 1) c) (n - 1) (xs.take (i * 2) ++ xs.drop (i * 2 + 2)) ∧ w.grownBy w' (Value.slice A n c).ownBlock := by
  obtain ⟨m, rfl⟩ : ∃ m, n = m + 1 := ⟨n - 1, by omega⟩
  have hl := hown.1
  obtain ⟨g, cur, rfl, hb, hg, hx, hcs, hnc, hcm⟩ := own_row hown (by omega)
  obtain ⟨L⟩ := cur
  have hx' : L.take ((m + 1) * 2) = xs := hx
  refine (delete_kid g m c i L w hg (by simpa using hcs) hnc (by omega) (by omega) (by rw [hx']; exact h1) hcm).mono ?_
  rintro e w' ⟨cur', rfl, hgr, _, hb', hlen, htk⟩
  refine ⟨rfl, ⟨?_, .inr ⟨g, c, cur'.toArray, rfl, hb, hb', by omega, hcm, by simpa using hlen, ?_⟩⟩, hgr⟩
  · simp only [List.length_append, List.length_take, List.length_drop]; omega
  · rw [hx'] at htk
    have h2 : L.take (i * 2) = xs.take (i * 2) := by rw [← hx', List.take_take, Nat.min_eq_left (by omega)]
    rw [h2] at htk
    simpa using htk

end Go.Proofs.YtemondlgcmpbbaaGreatDoor
