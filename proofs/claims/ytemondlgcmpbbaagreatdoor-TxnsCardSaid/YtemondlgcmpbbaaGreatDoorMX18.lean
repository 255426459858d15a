/- Wl Wm Wn Wo: merged. -/
import Derived.Test.YtemondlgcmpbbaaGreatDoorMX16
import Derived.Test.YtemondlgcmpbbaaGreatDoorMX17
import Derived.Deep.DeepCutAuto
namespace Go.Proofs.YtemondlgcmpbbaaGreatDoor
open Go.RowKit
set_option maxRecDepth 100000
def up (ok : Nat -> Prop) (B : Nat) : Nat -> Prop := fun x => ok x \/ B <= x
theorem FRep.below {ok ok' : Nat -> Prop} {w w' : World} {h : Nat} {t : Tr h} {b : Nat} {ds : List Nat} (hf : FRep ok w h t b ds) (hb : Below w.heap.size w w') (hs : ∀ x, ok x -> ok' x) : FRep ok' w' h t b ds :=
 hf.lt.move (Agree.of_below hb fun _ hx => hx.2) fun x hx => hs x hx.1
theorem RepL.below {ok ok' : Nat -> Prop} {w w' : World} {h : Nat} {es : List (Str × Tr h)} {bs : List Nat} {dss : List (List Nat)} (hf : RepL (FRep ok w h) es bs dss) (hb : Below w.heap.size w w') (hs : ∀ x, ok x -> ok' x) : RepL (FRep ok' w' h) es bs dss :=
 hf.mono fun _ _ _ hk => hk.below hb hs
theorem zpe {ok : Nat -> Prop} {B : Nat} : ∀ x, ok x -> up ok B x := fun _ h => .inl h
theorem zdr (w : World) (base : Nat) (T : TypeId) : w.ownsRow base T 2 (.slice none 0 0) 0 [] := ⟨rfl, .inl ⟨rfl, rfl⟩⟩
theorem zk6 (a b : List (Str × Str)) : pcells (a ++ b) = pcells a ++ pcells b := by simp [pcells]
theorem zhi {K : Type} (k : Str) (es : List (Str × K)) : (rekey k es).length = es.length := by cases es <;> rfl
theorem RepL.rekey {K : Type} {R : K -> Nat -> List Nat -> Prop} (k : Str) {es : List (Str × K)} {bs : List Nat} {dss : List (List Nat)} (h : RepL R es bs dss) : RepL R (rekey k es) bs dss := by
 cases es with
 | nil => exact h
 | cons e es =>
   cases bs with
   | nil => exact h.elim
   | cons b bs =>
     cases dss with
     | nil => exact h.elim
     | cons d dss => exact h
theorem zva {ok : Nat -> Prop} : ∀ (h : Nat) (t1 t2 : Tr h) (k : Str) (b1 b2 : Nat) (d1 d2 : List Nat) (w : World), FRep ok w h t1 b1 d1 -> FRep ok w h t2 b2 d2 -> Tr.len h t1 <= 400 -> Tr.len h t2 <= 400 -> (1 <= Tr.len h t1 \/ h = 0) -> (1 <= Tr.len h t2 \/ h = 0) ->
   Calls Tryz.prog 162 #[P b1, .agg #[.string k, P b2]] w fun e w' => ∃ b' e1 e2, e = .returned (P b') /\ FRep (up ok w.heap.size) w' h (Tr.join h t1 k t2) b' (e1 ++ e2 ++ [b']) /\ e1 ++ zb2 (Tr.dirty h t1) b1 = d1 /\ e2 ++ zb2 (Tr.dirty h t2) b2 = d2 /\ w.heap.size <= b' /\ Below w.heap.size w w'
 | 0, t1, t2, k, b1, b2, d1, d2, w, ⟨A1, c1, A2, c2, hn, hb, hr, hd⟩, ⟨A1', c1', A2', c2', hn', hb', hr', hd'⟩, l1, l2, _, _ => by
   refine (zpc (Nd.es t1) (Nd.es t2) k b1 _ _ c1 c2 b2 _ _ c1' c2' _ _ A1 A2 A1' A2' w hn hn' l1 l2).mono ?_
   rintro e w' ⟨b', B1, g1, B2, g2, rfl, x1, x2, x3, x4, x5⟩
   refine ⟨b', [], [], rfl, ?_, hd.symm, hd'.symm, x4, x5⟩
   rw [<- zk6] at x2
   exact FRep.mk_leaf (es := Nd.es t1 ++ Nd.es t2) (by rw [List.length_append]) x1 x2 x3 x4 fun _ hx _ => .inr hx
 | h + 1, t1, t2, k, b1, b2, d1, d2, w, ⟨A1, c1, A2, c2, bs, dss, hn, hb, hr, hk, hd⟩, ⟨A1', c1', A2', c2', bs', dss', hn', hb', hr', hk', hd'⟩, l1, l2, p1, p2 => by
   have p1' : 1 <= (Nd.es t1).length := by rcases p1 with p | p; exact p; cases p
   have p2' : 1 <= (Nd.es t2).length := by rcases p2 with p | p; exact p; cases p
   refine (zpd (Nd.es t1) (Nd.es t2) bs bs' hk.len.1 hk'.len.1 k b1 _ _ c2 c1 b2 _ _ c2' c1' _ _ A2 A1 A2' A1' w hn hn' l1 l2 p1' p2').mono ?_
   rintro e w' ⟨b', B1, g1, B2, g2, rfl, x1, x2, x3, x4, x5⟩
   refine ⟨b', dss.flatten, dss'.flatten, rfl, ?_, hd.symm, hd'.symm, x4, x5⟩
   rw [<- List.flatten_append]
   exact FRep.mk_branch (es := Nd.es t1 ++ rekey k (Nd.es t2)) (by rw [List.length_append, zhi]) x1 x2 x3 x4 (fun _ hx _ => .inr hx) ((hk.below x5 zpe).append ((hk'.below x5 zpe).rekey k))
theorem zoh {ok : Nat -> Prop} : ∀ (h : Nat) (t : Tr h) (b : Nat) (ds : List Nat) (w : World), FRep ok w h t b ds -> 2 <= Tr.len h t -> Tr.len h t <= 1000 -> Tr.size h t <= 100000 ->
   Calls Tryz.prog 86 #[P b] w fun e w' => ∃ b1 b2 d1 d2, e = .returned (.tuple #[P b1, .agg #[.string (Tr.split h t).2.1, P b2]]) /\ FRep (up ok w.heap.size) w' h (Tr.split h t).1 b1 (d1 ++ [b1]) /\ FRep (up ok w.heap.size) w' h (Tr.split h t).2.2 b2 (d2 ++ [b2]) /\ d1 ++ d2 ++ zb2 (Tr.dirty h t) b = ds /\
    w.heap.size <= b1 /\ w.heap.size <= b2 /\ b1 ≠ b2 /\ Below w.heap.size w w'
 | 0, t, b, ds, w, ⟨A1, c1, A2, c2, hn', hb, hr, hds⟩, h1, hn, hs => by
   change 2 <= (Nd.es t).length at h1
   change (Nd.es t).length <= 1000 at hn
   change ((Nd.es t).map lsz).sum <= 100000 at hs
   obtain ⟨g, o, u, v, hA, _, _, _, _, hg⟩ := hn'.ps.cells_at (Below.refl _ _) (k := 0) (by omega)
   subst hA
   obtain ⟨_, _, _, hve, hnc, hcm, _, _⟩ := hn'.ps
   injection hve with _ _ hce
   subst hce
   obtain ⟨k1, k2⟩ := zh9 ((Nd.es t).map lsz) (by simpa using h1)
   rw [List.length_map] at k2
   refine (zno (Nd.es t) b (Nd.blk t) (Nd.gen t) g o c1 _ c2 (Nd.dirty t) A2 w hn'.node hn'.ps rfl k1 k2 hnc hcm hn hs).mono ?_
   rintro e w' ⟨A1', d1, A2', d2, rfl, x1, x2, x3, x4, x5⟩
   refine ⟨_, _, [], [], rfl, ?_, ?_, hds.symm, by omega, by omega, by omega, x5⟩
   . exact FRep.mk_leaf (by rw [List.length_take, Nat.min_eq_left (by omega)]) x1 x3 (zdr _ _ _) (by omega) fun _ hx _ => .inr hx
   . exact FRep.mk_leaf (by rw [List.length_drop]) x2 x4 (zdr _ _ _) (by omega) fun _ hx _ => .inr hx
 | h + 1, t, b, ds, w, ⟨A1, c1, A2, c2, bs, dss, hn', hb, hr, hrl, hds⟩, h1, hn, hs => by
   change 2 <= (Nd.es t).length at h1
   change (Nd.es t).length <= 1000 at hn
   change ((Nd.es t).map ksz).sum <= 100000 at hs
   obtain ⟨g, o, u, v, hA, _, _, _, _, hg⟩ := hn'.ks.cells_at (Below.refl _ _) (k := 0) (by omega)
   subst hA
   obtain ⟨_, _, _, hve, hnc, hcm, _, _⟩ := hn'.ks
   injection hve with _ _ hce
   subst hce
   obtain ⟨k1, k2⟩ := zh9 ((Nd.es t).map ksz) (by simpa using h1)
   rw [List.length_map] at k2
   refine (znp (Nd.es t) bs hrl.len.1 b (Nd.blk t) (Nd.gen t) g o c2 _ c1 (Nd.dirty t) A1 w hn'.node hn'.ks rfl k1 k2 hnc hcm hn hs).mono ?_
   rintro e w' ⟨A1', d1, A2', d2, rfl, x1, x2, x3, x4, x5⟩
   have hrl' := hrl.below x5 (ok' := up ok w.heap.size) zpe
   refine ⟨_, _, (dss.take (zba ((Nd.es t).map ksz))).flatten, (dss.drop (zba ((Nd.es t).map ksz))).flatten, rfl, ?_, ?_, ?_, by omega, by omega, by omega, x5⟩
   . exact FRep.mk_branch (by rw [List.length_take, Nat.min_eq_left (by omega)]) x1 (zdr _ _ _) x3 (by omega) (fun _ hx _ => .inr hx) (hrl'.take _)
   . exact FRep.mk_branch (by rw [List.length_drop]) x2 (zdr _ _ _) x4 (by omega) (fun _ hx _ => .inr hx) (hrl'.drop _)
   . rw [<- List.flatten_append, List.take_append_drop]; exact hds.symm
def fp (pk : Nat -> Prop) (b : Nat) (A : Option Addr) : Nat -> Prop := fun x => pk x /\ x ≠ b /\ ∀ a, A = some a -> x ≠ a.block
structure Opn (pk : Nat -> Prop) (base : Nat) (w : World) (h b : Nat) (es : List (Str × Tr h)) (bs : List Nat) (dss : List (List Nat)) (A1 : Option Addr) (c1 : Nat) (A2 : Option Addr) (n c2 : Nat) : Prop where
 len : n = es.length
 node : Blk w b 137 #[.int .i64 0, .int .u32 0, .bool true, .slice A1 0 c1, .slice A2 n c2]
 ps : w.ownsRow base 68 2 (.slice A1 0 c1) 0 []
 ks : w.ownsRow base 139 2 (.slice A2 n c2) n (kcells es bs)
 hb : base <= b
 kids : RepL (FRep (fp pk b A2) w h) es bs dss
theorem zj3 {w : World} {base n c g j : Nat} {T : TypeId} {xs : List Value} (h : w.ownsRow base T 2 (.slice (some ⟨g, 0, none⟩) n c) n xs) (_hj : j < n * 2) (u : Value) :
   (w.setCell ⟨g, j, none⟩ u).ownsRow base T 2 (.slice (some ⟨g, 0, none⟩) n c) n (xs.set j u) := by
 obtain ⟨hl, hd⟩ := h
 rcases hd with ⟨h0, _⟩ | ⟨g', cap, cur, hv, hb, hg, hnc, hcm, hcs, hx⟩
 . cases h0
 . injection hv with hv _ hc
   injection hv with hv
   injection hv with hv
   subst hv
   subst hc
   refine ⟨by rw [List.length_set]; exact hl, .inr ⟨g, c, cur.setIfInBounds j u, rfl, hb, Blk.set_ (t := T) hg j u, hnc, hcm, by simpa using hcs, ?_⟩⟩
   rw [<- hx]
   simp only [Array.toList_setIfInBounds]
   rw [List.take_set]
theorem zcx {w : World} {base n c : Nat} {T : TypeId} {A : Option Addr} {xs : List Value} (h : w.ownsRow base T 2 (.slice A n c) n xs) (hn : 0 < n) : ∃ g cur, A = some ⟨g, 0, none⟩ /\ base <= g /\ Blk w g T cur /\ cur.toList.take (n * 2) = xs /\ cur.size = c * 2 /\ n <= c /\ c <= maxLen := by
 obtain ⟨hl, hd⟩ := h
 rcases hd with ⟨_, h0⟩ | ⟨g', cap, cur, hv, hb, hg, hnc, hcm, hcs, hx⟩
 . omega
 . injection hv with hv _ hc
   subst hc
   exact ⟨g', cur, hv, hb, hg, hx, hcs, hnc, hcm⟩
theorem RepL.set {K : Type} {R : K -> Nat -> List Nat -> Prop} : ∀ {pre post : List (Str × K)} {k : Str} {c t : K} {bs : List Nat} {dss : List (List Nat)} {b : Nat} {d : List Nat}, RepL R (pre ++ (k, c) :: post) bs dss -> R t b d -> RepL R (pre ++ (k, t) :: post) (bs.set pre.length b) (dss.set pre.length d)
 | [], _, _, _, _, _ :: _, _ :: _, _, _, h, ht => ⟨ht, h.2⟩
 | [], _, _, _, _, [], _, _, _, h, _ => h.elim
 | [], _, _, _, _, _ :: _, [], _, _, h, _ => h.elim
 | _ :: _, _, _, _, _, [], _, _, _, h, _ => h.elim
 | _ :: _, _, _, _, _, _ :: _, [], _, _, h, _ => h.elim
 | _ :: _, _, _, _, _, _ :: _, _ :: _, _, _, h, ht => ⟨h.1, RepL.set h.2 ht⟩
theorem RepL.at_ {K : Type} {R : K -> Nat -> List Nat -> Prop} : ∀ {es : List (Str × K)} {bs : List Nat} {dss : List (List Nat)}, RepL R es bs dss -> ∀ (i : Nat) (h1 : i < es.length) (h2 : i < bs.length) (h3 : i < dss.length), R es[i].2 bs[i] dss[i]
 | _ :: _, _ :: _, _ :: _, h, 0, _, _, _ => h.1
 | _ :: _, _ :: _, _ :: _, h, i + 1, h1, h2, h3 => RepL.at_ h.2 i (by simpa using h1) (by simpa using h2) (by simpa using h3)
 | [], _, _, _, i, h1, _, _ => by simp at h1
 | _ :: _, [], _, _, i, _, h2, _ => by simp at h2
 | _ :: _, _ :: _, [], _, i, _, _, h3 => by simp at h3
theorem zjd {K : Type} : ∀ (pre post : List (Str × K)) (k : Str) (c t : K) (bs : List Nat) (b : Nat), bs.length = (pre ++ (k, c) :: post).length -> (kcells (pre ++ (k, c) :: post) bs).set (pre.length * 2 + 1) (P b) = kcells (pre ++ (k, t) :: post) (bs.set pre.length b)
 | [], _, _, _, _, [], _, h => by simp at h
 | [], post, k, c, t, b0 :: bs, b, h => by simp [kcells]
 | _ :: _, _, _, _, _, [], _, h => by simp at h
 | e :: pre, post, k, c, t, b0 :: bs, b, h => by
   have := zjd pre post k c t bs b (by simpa using h)
   simp only [List.cons_append, List.length_cons, List.set_cons_succ, show (pre.length + 1) * 2 + 1 = pre.length * 2 + 1 + 1 + 1 by omega, kcells]
   rw [this]
section
variable {pk : Nat -> Prop} {base : Nat} {w w' : World} {h b : Nat} {es : List (Str × Tr h)} {bs : List Nat} {dss : List (List Nat)} {A1 A2 : Option Addr} {n c1 c2 : Nat}
theorem Opn.below (o : Opn pk base w h b es bs dss A1 c1 A2 n c2) (hb : Below w.heap.size w w') : Opn pk base w' h b es bs dss A1 c1 A2 n c2 :=
 ⟨o.len, o.node.below hb o.node.lt, zat o.ps hb, zat o.ks hb, o.hb, o.kids.below hb fun _ hx => hx⟩
theorem Opn.setKid {pre post : List (Str × Tr h)} {k : Str} {c t : Tr h} {bt : Nat} {dt : List Nat} {g : Nat} (o : Opn pk base w h b (pre ++ (k, c) :: post) bs dss A1 c1 (some ⟨g, 0, none⟩) n c2) (ht : FRep (fp pk b (some ⟨g, 0, none⟩)) w h t bt dt) :
   Opn pk base (w.setCell ⟨g, pre.length * 2 + 1, none⟩ (P bt)) h b (pre ++ (k, t) :: post) (bs.set pre.length bt) (dss.set pre.length dt) A1 c1 (some ⟨g, 0, none⟩) n c2 := by
 have hn := o.len
 simp only [List.length_append, List.length_cons] at hn
 obtain ⟨g', cur, hA, _, hgb, _⟩ := zcx o.ks (by omega)
 injection hA with hA
 injection hA with hA
 subst hA
 have hgn : b ≠ g := o.node.ne_ hgb (by decide)
 have hag : Agree (fp pk b (some ⟨g, 0, none⟩)) w (w.setCell ⟨g, pre.length * 2 + 1, none⟩ (P bt)) := Agree.setCell w _ _ fun hx => hx.2.2 _ rfl rfl
 refine ⟨by rw [o.len]; simp, o.node.far hgn _, ownsRow_setCell_other o.ps (zae o.ps hgb (by decide)) _, ?_, o.hb, ?_⟩
 . have := zj3 o.ks (j := pre.length * 2 + 1) (by omega) (P bt)
   rw [zjd pre post k c t bs bt o.kids.len.1] at this
   exact this
 . exact (o.kids.mono fun _ _ _ hk => hk.move hag fun _ hx => hx).set (ht.move hag fun _ hx => hx)
theorem Opn.row {es' : List (Str × Tr h)} {bs' : List Nat} {dss' : List (List Nat)} {A' : Option Addr} {n' c' : Nat} (o : Opn pk base w h b es bs dss A1 c1 A2 n c2) (hg : w.grownBy w' (Value.slice A2 n c2).ownBlock) (hn : n' = es'.length)
   (hr : w'.ownsRow base 139 2 (.slice A' n' c') n' (kcells es' bs')) (hat : (Value.slice A' n' c').ownBlock = (Value.slice A2 n c2).ownBlock \/ ∃ g', (Value.slice A' n' c').ownBlock = some g' /\ w.heap.size <= g') (hk : RepL (FRep (fp pk b A2) w h) es' bs' dss') :
   Opn pk base (w'.setCell ⟨b, 4, none⟩ (.slice A' n' c')) h b es' bs' dss' A1 c1 A' n' c' := by
 have hnb : some b ≠ (Value.slice A2 n c2).ownBlock := fun e => zae o.ks o.node (by decide) e.symm
 have hb' := o.node.grown hg hnb
 have hp' : w'.ownsRow base 68 2 (.slice A1 0 c1) 0 [] := World.ownsRow.kept o.ps hg (ze9 o.ps o.ks (by decide))
 have hag : Agree (fun x => fp pk b A2 x /\ x < w.heap.size) w (w'.setCell ⟨b, 4, none⟩ (.slice A' n' c')) :=
  Agree.trans (Agree.grown hg fun x hx => ⟨hx.2, fun e => by
   cases A2 with
   | none => cases e
   | some a => exact hx.1.2.2 a rfl (by simpa [Value.ownBlock] using e)⟩) (Agree.setCell w' _ _ fun hx => hx.1.2.1 rfl)
 refine ⟨hn, hb'.set_ 4 _, ownsRow_setCell_other hp' (zae hp' hb' (by decide)) _, ownsRow_setCell_other hr (zae hr hb' (by decide)) _, o.hb, ?_⟩
 refine hk.mono fun _ _ _ hk => hk.lt.move hag fun x hx => ⟨hx.1.1, hx.1.2.1, fun a ha => ?_⟩
 subst ha
 rcases hat with e | ⟨g', e, hge⟩
 . cases A2 with
   | none => cases e
   | some a2 =>
     have : a.block = a2.block := by simpa [Value.ownBlock] using e
     rw [this]
     exact hx.1.2.2 _ rfl
 . have : a.block = g' := by simpa [Value.ownBlock] using e
   have := hx.2
   omega
end
theorem RepL.cut {K : Type} {R : K -> Nat -> List Nat -> Prop} : ∀ {pre post : List (Str × K)} {k : Str} {c : K} {bs : List Nat} {dss : List (List Nat)}, RepL R (pre ++ (k, c) :: post) bs dss ->
   ∃ bp bc bq dp dc dq, bs = bp ++ bc :: bq /\ dss = dp ++ dc :: dq /\ bp.length = pre.length /\ dp.length = pre.length /\ RepL R pre bp dp /\ R c bc dc /\ RepL R post bq dq
 | [], _, _, _, b :: bs, d :: dss, h => ⟨[], b, bs, [], d, dss, rfl, rfl, rfl, rfl, trivial, h.1, h.2⟩
 | [], _, _, _, [], _, h => h.elim
 | [], _, _, _, _ :: _, [], h => h.elim
 | _ :: _, _, _, _, [], _, h => h.elim
 | _ :: _, _, _, _, _ :: _, [], h => h.elim
 | _ :: pre, _, _, _, b :: bs, d :: dss, h => by
   obtain ⟨bp, bc, bq, dp, dc, dq, rfl, rfl, h1, h2, h3, h4, h5⟩ := RepL.cut h.2
   exact ⟨b :: bp, bc, bq, d :: dp, dc, dq, rfl, rfl, by simp [h1], by simp [h2], ⟨h.1, h3⟩, h4, h5⟩
theorem zia {d : Bool} {b x : Nat} (h : x ∈ zb2 d b) : x = b := by
 unfold zb2 at h
 split at h
 . simpa using h
 . simp at h
theorem RepL.ds {K : Type} {R : K -> Nat -> List Nat -> Prop} {P : Nat -> Prop} (hR : ∀ k b d, R k b d -> ∀ x ∈ d, P x) : ∀ {es : List (Str × K)} {bs : List Nat} {dss : List (List Nat)}, RepL R es bs dss -> ∀ x ∈ dss.flatten, P x
 | [], [], [], _, x, hx => by simp at hx
 | _ :: _, _ :: _, d :: dss, h, x, hx => by
   rw [List.flatten_cons, List.mem_append] at hx
   rcases hx with hx | hx
   . exact hR _ _ _ h.1 x hx
   . exact RepL.ds hR h.2 x hx
 | [], [], _ :: _, h, _, _ => h.elim
 | [], _ :: _, _, h, _, _ => h.elim
 | _ :: _, [], _, h, _, _ => h.elim
 | _ :: _, _ :: _, [], h, _, _ => h.elim
theorem FRep.ds {ok : Nat -> Prop} {w : World} : ∀ {h : Nat} {t : Tr h} {b : Nat} {ds : List Nat}, FRep ok w h t b ds -> ∀ x ∈ ds, ok x /\ x < w.heap.size
 | 0, _, _, _, ⟨A1, c1, A2, c2, hn, hb, hr, hd⟩, x, hx => by
   rw [hd] at hx
   rw [zia hx]
   exact ⟨hb, Blk.lt hn.node⟩
 | _ + 1, _, _, _, ⟨A1, c1, A2, c2, bs, dss, hn, hb, hr, hk, hd⟩, x, hx => by
   rw [hd, List.mem_append] at hx
   rcases hx with hx | hx
   . exact hk.ds (fun _ _ _ hk => FRep.ds hk) x hx
   . rw [zia hx]
     exact ⟨hb, Blk.lt hn.node⟩
theorem Opn.cells {pk : Nat -> Prop} {base : Nat} {w : World} {h b : Nat} {pre post : List (Str × Tr h)} {k : Str} {c : Tr h} {bp bq : List Nat} {bt : Nat} {dss : List (List Nat)} {A1 : Option Addr} {g n c1 c2 : Nat}
   (o : Opn pk base w h b (pre ++ (k, c) :: post) (bp ++ bt :: bq) dss A1 c1 (some ⟨g, 0, none⟩) n c2) (hl : bp.length = pre.length) : w.cell? ⟨g, pre.length * 2, none⟩ = some (.string k) /\ w.cell? ⟨g, pre.length * 2 + 1, none⟩ = some (P bt) := by
 have hn := o.len
 simp only [List.length_append, List.length_cons] at hn
 obtain ⟨g', cur, hA, _, hgb, hx, _⟩ := zcx o.ks (by omega)
 injection hA with hA
 injection hA with hA
 subst hA
 have hc := zco (pre ++ (k, c) :: post) (bp ++ bt :: bq) pre.length (by simp) (by simp; omega)
 rw [<- hx] at hc
 rw [hgb.cell, hgb.cell]
 have h1 : (pre ++ (k, c) :: post)[pre.length]'(by simp) = (k, c) := by simp
 have h2 : (bp ++ bt :: bq)[pre.length]'(by simp; omega) = bt := by
  rw [List.getElem_append_right (by omega)]
  simp [hl]
 rw [h1, h2, List.getElem?_take, List.getElem?_take, if_pos (by omega), if_pos (by omega)] at hc
 simpa using hc
theorem zgy {K : Type} : ∀ (pre post : List (Str × K)) (k : Str) (c : K) (k2 : Str) (d : K) (bp bq : List Nat) (b1 b2 : Nat), bp.length = pre.length -> 
   (kcells (pre ++ (k, c) :: post) (bp ++ b1 :: bq)).take (pre.length * 2 + 2) ++ [.string k2, P b2] ++ (kcells (pre ++ (k, c) :: post) (bp ++ b1 :: bq)).drop (pre.length * 2 + 2) = kcells (pre ++ (k, c) :: (k2, d) :: post) (bp ++ b1 :: b2 :: bq)
 | [], post, k, c, k2, d, [], bq, b1, b2, _ => by simp [kcells]
 | [], _, _, _, _, _, _ :: _, _, _, _, h => by simp at h
 | _ :: _, _, _, _, _, _, [], _, _, _, h => by simp at h
 | e :: pre, post, k, c, k2, d, b0 :: bp, bq, b1, b2, h => by
   have := zgy pre post k c k2 d bp bq b1 b2 (by simpa using h)
   simp only [List.cons_append, List.length_cons, kcells, show (pre.length + 1) * 2 + 2 = pre.length * 2 + 2 + 1 + 1 by omega, List.take_succ_cons, List.drop_succ_cons, List.append_assoc] at this ⊢
   rw [this]
theorem zgz {K : Type} : ∀ (pre post : List (Str × K)) (k k2 : Str) (c d : K) (bp bq : List Nat) (b1 b2 : Nat), bp.length = pre.length ->
   (kcells (pre ++ (k, c) :: (k2, d) :: post) (bp ++ b1 :: b2 :: bq)).take (pre.length * 2 + 2) ++ (kcells (pre ++ (k, c) :: (k2, d) :: post) (bp ++ b1 :: b2 :: bq)).drop (pre.length * 2 + 2 + 2) = kcells (pre ++ (k, c) :: post) (bp ++ b1 :: bq)
 | [], post, k, k2, c, d, [], bq, b1, b2, _ => by simp [kcells]
 | [], _, _, _, _, _, _ :: _, _, _, _, h => by simp at h
 | _ :: _, _, _, _, _, _, [], _, _, _, h => by simp at h
 | e :: pre, post, k, k2, c, d, b0 :: bp, bq, b1, b2, h => by
   have := zgz pre post k k2 c d bp bq b1 b2 (by simpa using h)
   simp only [List.cons_append, List.length_cons, kcells, show (pre.length + 1) * 2 + 2 = pre.length * 2 + 2 + 1 + 1 by omega, show pre.length * 2 + 2 + 1 + 1 + 2 = pre.length * 2 + 2 + 2 + 1 + 1 by omega, List.take_succ_cons, List.drop_succ_cons] at this ⊢
   rw [this]
theorem RepL.join2 {K : Type} {R : K -> Nat -> List Nat -> Prop} {pre post : List (Str × K)} {bp bq : List Nat} {dp dq : List (List Nat)} {k : Str} {c : K} {bc : Nat} {dc : List Nat} (h1 : RepL R pre bp dp) (h2 : R c bc dc) (h3 : RepL R post bq dq) : RepL R (pre ++ (k, c) :: post) (bp ++ bc :: bq) (dp ++ dc :: dq) :=
 h1.append ⟨h2, h3⟩
theorem RepL.cut2 {K : Type} {R : K -> Nat -> List Nat -> Prop} : ∀ {pre post : List (Str × K)} {k : Str} {c : K} {bp bq : List Nat} {bc : Nat} {dp dq : List (List Nat)} {dc : List Nat}, RepL R (pre ++ (k, c) :: post) (bp ++ bc :: bq) (dp ++ dc :: dq) -> bp.length = pre.length -> dp.length = pre.length -> RepL R pre bp dp /\ R c bc dc /\ RepL R post bq dq
 | [], _, _, _, [], _, _, [], _, _, h, _, _ => ⟨trivial, h.1, h.2⟩
 | [], _, _, _, _ :: _, _, _, _, _, _, _, h1, _ => by simp at h1
 | [], _, _, _, [], _, _, _ :: _, _, _, _, _, h2 => by simp at h2
 | _ :: _, _, _, _, [], _, _, _, _, _, _, h1, _ => by simp at h1
 | _ :: _, _, _, _, _ :: _, _, _, [], _, _, _, _, h2 => by simp at h2
 | _ :: _, _, _, _, _ :: _, _, _, _ :: _, _, _, h, h1, h2 => by
   obtain ⟨x, y, z⟩ := RepL.cut2 h.2 (by simpa using h1) (by simpa using h2)
   exact ⟨⟨h.1, x⟩, y, z⟩
theorem zdj {α : Type} (a b : List α) (x y : α) (i : Nat) (h : a.length = i) : (a ++ x :: b).set i y = a ++ y :: b := by
 subst h
 simp
theorem zj4 (base n c i : Nat) (A : Option Addr) (xs : List Value) (w : World) (hown : w.ownsRow base 139 2 (.slice A n c) n xs) (hi : i + 1 <= n) (hn : n <= 1000) (h1 : ∀ u ∈ xs, u.oneCell' = true) :
   Calls Tryz.prog 163 #[.slice A n c, .int .i64 i, .int .i64 (i + 1)] w fun e w' => e = .returned (.slice A (n - 1) c) /\ w'.ownsRow base 139 2 (.slice A (n - 1) c) (n - 1) (xs.take (i * 2) ++ xs.drop (i * 2 + 2)) /\ w.grownBy w' (Value.slice A n c).ownBlock := by
 obtain ⟨m, rfl⟩ : ∃ m, n = m + 1 := ⟨n - 1, by omega⟩
 have hl := hown.1
 obtain ⟨g, cur, rfl, hb, hg, hx, hcs, hnc, hcm⟩ := zcx hown (by omega)
 obtain ⟨L⟩ := cur
 have hx' : L.take ((m + 1) * 2) = xs := hx
 refine (zo3 g m c i L w hg (by simpa using hcs) hnc (by omega) (by omega) (by rw [hx']; exact h1) hcm).mono ?_
 rintro e w' ⟨cur', rfl, hgr, _, hb', hlen, htk⟩
 refine ⟨rfl, ⟨?_, .inr ⟨g, c, cur'.toArray, rfl, hb, hb', by omega, hcm, by simpa using hlen, ?_⟩⟩, hgr⟩
 . simp only [List.length_append, List.length_take, List.length_drop]; omega
 . rw [hx'] at htk
   have h2 : L.take (i * 2) = xs.take (i * 2) := by rw [<- hx', List.take_take, Nat.min_eq_left (by omega)]
   rw [h2] at htk
   simpa using htk
def ElOk : (h : Nat) -> Tr h -> Prop
 | 0, t => ∀ e ∈ Nd.es t, lsz e <= 22
 | _ + 1, t => ∀ e ∈ Nd.es t, ksz e <= 22
def zd2 (h : Nat) (t : Tr h) : Prop := ElOk h t /\ (1 <= Tr.len h t \/ h = 0) /\ Tr.len h t <= 200
theorem zje {K : Type} (f : K -> Nat) (l : List K) (m : Nat) (h : ∀ e ∈ l, f e <= m) : (l.map f).sum <= m * l.length := by
 induction l with
 | nil => simp
 | cons e l ih =>
   have h1 := h e (by simp)
   have h2 := ih fun x hx => h x (by simp [hx])
   simp only [List.map_cons, List.sum_cons, List.length_cons, Nat.mul_add, Nat.mul_one]
   omega
theorem ElOk.size : ∀ {h : Nat} {t : Tr h}, ElOk h t -> Tr.size h t <= 22 * Tr.len h t
 | 0, _, ht => zje _ _ _ ht
 | _ + 1, _, ht => zje _ _ _ ht
theorem ElOk.full {h : Nat} {t : Tr h} (ht : ElOk h t) (hf : Tr.full h t = true) : 2 <= Tr.len h t := by
 have := ht.size
 unfold Tr.full at hf
 have h2 := of_decide_eq_true hf
 omega
theorem ElOk.join : ∀ {h : Nat} {a b : Tr h} {k : Str}, ElOk h a -> ElOk h b -> k.size <= 15 -> ElOk h (Tr.join h a k b)
 | 0, _, _, _, ha, hb, _ => fun e he => by
   rcases List.mem_append.1 he with he | he
   . exact ha e he
   . exact hb e he
 | _ + 1, a, b, k, ha, hb, hk => fun e he => by
   rcases List.mem_append.1 he with he | he
   . exact ha e he
   . cases hes : Nd.es b with
     | nil => rw [hes] at he; cases he
     | cons x l =>
       rw [hes] at he
       rcases List.mem_cons.1 he with rfl | he
       . unfold ksz; simp only; omega
       . exact hb e (by rw [hes]; exact List.mem_cons_of_mem _ he)
theorem zl5 : ∀ (h : Nat) (a b : Tr h) (k : Str), Tr.len h (Tr.join h a k b) = Tr.len h a + Tr.len h b
 | 0, _, _, _ => List.length_append
 | _ + 1, a, b, k => by
   show (Nd.es a ++ rekey k (Nd.es b)).length = _
   rw [List.length_append, zhi]; rfl
theorem zq5 {h : Nat} {pre post : List (Str × Tr h)} {k : Str} {c : Tr h} (ht : Tr.thin h c = true) (hn : 1 < pre.length + (post.length + 1)) :
   ∃ pre' k1 a k2 d post', pre ++ (k, c) :: post = pre' ++ (k1, a) :: (k2, d) :: post' /\ pre'.length = min pre.length (pre.length + (post.length + 1) - 2) /\ zbr h pre k c post = pre' ++ fix h k1 (Tr.join h a k2 d) ++ post' := by
 cases post with
 | cons d post' => exact ⟨pre, k, c, d.1, d.2, post', rfl, by simp; omega, by simp [zbr, ht]⟩
 | nil =>
   cases hg : pre.getLast? with
   | none =>
     rw [List.getLast?_eq_none_iff] at hg
     subst hg
     simp at hn
   | some e =>
     have hs := zgj pre e hg
     refine ⟨pre.dropLast, e.1, e.2, k, c, [], ?_, ?_, ?_⟩
     . conv => lhs; rw [hs]
       simp
     . simp only [List.length_dropLast, List.length_nil]; omega
     . simp [zbr, ht, hg]
theorem RepL.head {K : Type} {R : K -> Nat -> List Nat -> Prop} {k : Str} {c : K} {post : List (Str × K)} : ∀ {bs : List Nat} {dss : List (List Nat)}, RepL R ((k, c) :: post) bs dss -> ∃ b bq d dq, bs = b :: bq /\ dss = d :: dq /\ R c b d /\ RepL R post bq dq
 | b :: bq, d :: dq, h => ⟨b, bq, d, dq, rfl, rfl, h.1, h.2⟩
 | [], _, h => h.elim
 | _ :: _, [], h => h.elim
theorem zpf {dp dq : List (List Nat)} {e1 e2 t1 t2 : List Nat} {b' B : Nat} (h : (dp ++ (e1 ++ t1) :: (e2 ++ t2) :: dq).flatten.Nodup) (hB : ∀ x ∈ (dp ++ (e1 ++ t1) :: (e2 ++ t2) :: dq).flatten, x < B) (hb : B <= b') :
   (dp ++ (e1 ++ e2 ++ [b']) :: dq).flatten.Nodup /\ ∀ x ∈ (dp ++ (e1 ++ e2 ++ [b']) :: dq).flatten, x ∈ (dp ++ (e1 ++ t1) :: (e2 ++ t2) :: dq).flatten \/ x = b' := by
 have hs : (dp.flatten ++ (e1 ++ (e2 ++ dq.flatten))).Sublist (dp ++ (e1 ++ t1) :: (e2 ++ t2) :: dq).flatten := by
  simp only [List.flatten_append, List.flatten_cons, List.append_assoc]
  exact (List.Sublist.refl _).append ((List.Sublist.refl _).append ((((List.Sublist.refl e2).append (List.sublist_append_right t2 _))).trans (List.sublist_append_right t1 _)))
 have hp : (dp ++ (e1 ++ e2 ++ [b']) :: dq).flatten.Perm (b' :: (dp.flatten ++ (e1 ++ (e2 ++ dq.flatten)))) := by
  simp only [List.flatten_append, List.flatten_cons, List.append_assoc, List.cons_append, List.nil_append]
  have : (dp.flatten ++ (e1 ++ (e2 ++ b' :: dq.flatten))) = (dp.flatten ++ (e1 ++ e2)) ++ b' :: dq.flatten := by simp
  rw [this]
  refine List.perm_middle.trans ?_
  simp
 refine ⟨hp.nodup_iff.2 (List.nodup_cons.2 ⟨fun hm => ?_, hs.nodup h⟩), fun x hx => ?_⟩
 . have := hB _ (hs.subset hm); omega
 . rcases List.mem_cons.1 (hp.mem_iff.1 hx) with e | e
   . exact .inr e
   . exact .inl (hs.subset e)
theorem zib {dp dq : List (List Nat)} {e1 e2 t : List Nat} {b1 b2 B : Nat} (h : (dp ++ (e1 ++ e2 ++ t) :: dq).flatten.Nodup) (hB : ∀ x ∈ (dp ++ (e1 ++ e2 ++ t) :: dq).flatten, x < B) (h1 : B <= b1) (h2 : B <= b2) (h12 : b1 ≠ b2) :
   (dp ++ (e1 ++ [b1]) :: (e2 ++ [b2]) :: dq).flatten.Nodup /\ ∀ x ∈ (dp ++ (e1 ++ [b1]) :: (e2 ++ [b2]) :: dq).flatten, x ∈ (dp ++ (e1 ++ e2 ++ t) :: dq).flatten \/ x = b1 \/ x = b2 := by
 have hs : (dp.flatten ++ (e1 ++ (e2 ++ dq.flatten))).Sublist (dp ++ (e1 ++ e2 ++ t) :: dq).flatten := by
  simp only [List.flatten_append, List.flatten_cons, List.append_assoc]
  exact (List.Sublist.refl _).append ((List.Sublist.refl _).append ((List.Sublist.refl e2).append (List.sublist_append_right t _)))
 have hp : (dp ++ (e1 ++ [b1]) :: (e2 ++ [b2]) :: dq).flatten.Perm (b1 :: b2 :: (dp.flatten ++ (e1 ++ (e2 ++ dq.flatten)))) := by
  have e : (dp ++ (e1 ++ [b1]) :: (e2 ++ [b2]) :: dq).flatten = (dp.flatten ++ e1) ++ b1 :: (e2 ++ b2 :: dq.flatten) := by simp
  rw [e]
  refine List.perm_middle.trans (List.Perm.cons _ ?_)
  have e : (dp.flatten ++ e1) ++ (e2 ++ b2 :: dq.flatten) = (dp.flatten ++ e1 ++ e2) ++ b2 :: dq.flatten := by simp
  rw [e]
  refine List.perm_middle.trans ?_
  simp
 refine ⟨hp.nodup_iff.2 (List.nodup_cons.2 ⟨fun hm => ?_, List.nodup_cons.2 ⟨fun hm => ?_, hs.nodup h⟩⟩), fun x hx => ?_⟩
 . rcases List.mem_cons.1 hm with e | e
   . exact h12 e
   . have := hB _ (hs.subset e); omega
 . have := hB _ (hs.subset hm); omega
 . rcases List.mem_cons.1 (hp.mem_iff.1 hx) with e | e
   . exact .inr (.inl e)
   . rcases List.mem_cons.1 e with e | e
     . exact .inr (.inr e)
     . exact .inl (hs.subset e)
theorem zpg {h : Nat} {pre post : List (Str × Tr h)} {k : Str} {c : Tr h} (ht : Tr.thin h c = false \/ ¬ 1 < pre.length + (post.length + 1)) : zbr h pre k c post = pre ++ fix h k c ++ post := by
 rcases ht with ht | ht
 . simp [zbr, ht]
 . have h1 : pre = [] := List.eq_nil_of_length_eq_zero (by omega)
   have h2 : post = [] := List.eq_nil_of_length_eq_zero (by omega)
   subst h1; subst h2
   unfold zbr
   split <;> simp
theorem zjf (base n i gv : Nat) (A : Option Addr) (c : Nat) (xs : List Value) (x1 x2 : Value) (w : World) (hown : w.ownsRow base 139 2 (.slice A n c) n xs) (hv : Blk w gv 139 #[x1, x2]) (hne : Value.ownBlock (.slice A n c) ≠ some gv) (hi : i + 1 <= n) (hn : n <= 1000) (h1 : ∀ u ∈ xs, u.oneCell' = true) (hn1 : ∀ u ∈ [x1, x2], u.oneCell' = true) (hbase : base <= w.heap.size) (hc : c <= maxLen) :
   Calls Tryz.prog 164 #[.slice A n c, .int .i64 ((i : Int) + 1), .slice (some ⟨gv, 0, none⟩) 1 1] w fun e w' => ∃ A' c', e = .returned (.slice A' (n + 1) c') /\ w'.ownsRow base 139 2 (.slice A' (n + 1) c') (n + 1) (xs.take (i * 2 + 2) ++ [x1, x2] ++ xs.drop (i * 2 + 2)) /\ w.grownBy w' (Value.ownBlock (.slice A n c)) /\
    ((Value.slice A' (n + 1) c').ownBlock = Value.ownBlock (.slice A n c) \/ ∃ g', (Value.slice A' (n + 1) c').ownBlock = some g' /\ w.heap.size <= g') :=
 (zo5 base n (i + 1) gv A c xs x1 x2 w hown hv hne hi hn h1 hn1 hbase hc).mono fun _ _ ⟨_, he, ho, hg, hat⟩ => by
  obtain ⟨A', c', rfl, _, ho'⟩ := zbf ho
  rw [show (i + 1) * 2 = i * 2 + 2 by omega] at ho'
  exact ⟨A', c', he, ho', hg, hat⟩
theorem zic {w : World} {base n c g : Nat} {T : TypeId} {xs : List Value} (h : w.ownsRow base T 2 (.slice (some ⟨g, 0, none⟩) n c) n xs) (hn : 0 < n) : ∃ cur, Blk w g T cur := by
 obtain ⟨g', cur, hA, _, hb, _⟩ := zcx h hn
 injection hA with hA
 injection hA with hA
 subst hA
 exact ⟨cur, hb⟩
theorem zjg (base n c J : Nat) (A : Option Addr) (xs : List Value) (w : World) (hown : w.ownsRow base 139 2 (.slice A n c) n xs) (hi : J + 2 <= n) (hn : n <= 1000) (h1 : ∀ u ∈ xs, u.oneCell' = true) :
   Calls Tryz.prog 163 #[.slice A n c, .int .i64 ((J : Int) + 1), .int .i64 ((J : Int) + 2)] w fun e w' => e = .returned (.slice A (n - 1) c) /\ w'.ownsRow base 139 2 (.slice A (n - 1) c) (n - 1) (xs.take (J * 2 + 2) ++ xs.drop (J * 2 + 2 + 2)) /\ w.grownBy w' (Value.slice A n c).ownBlock := by
 have := zj4 base n c (J + 1) A xs w hown hi hn h1
 rw [show (J + 1) * 2 = J * 2 + 2 by omega, show (((J + 1 : Nat) : Int)) = (J : Int) + 1 by omega, show (J : Int) + 1 + 1 = (J : Int) + 2 by omega] at this
 exact this
theorem zej {w w' : World} {row : Option Nat} {B : Nat} (hg : w.grownBy w' row) (hrow : ∀ g, row = some g -> B <= g) (hB : B <= w.heap.size) : Below B w w' :=
 ⟨hg.os, hg.tape, hg.output, hg.size, fun x hx => hg.block x (by omega) (fun e => by have := hrow x e.symm; omega)⟩
theorem Opn.cells2 {pk : Nat -> Prop} {base : Nat} {w : World} {h b : Nat} {pre post : List (Str × Tr h)} {k k2 : Str} {c d : Tr h} {bp bq : List Nat} {bt b2 : Nat} {dss : List (List Nat)} {A1 : Option Addr} {g n c1 c2 : Nat}
   (o : Opn pk base w h b (pre ++ (k, c) :: (k2, d) :: post) (bp ++ bt :: b2 :: bq) dss A1 c1 (some ⟨g, 0, none⟩) n c2) (hl : bp.length = pre.length) : w.cell? ⟨g, (pre.length + 1) * 2, none⟩ = some (.string k2) /\ w.cell? ⟨g, (pre.length + 1) * 2 + 1, none⟩ = some (P b2) := by
 have e1 : pre ++ (k, c) :: (k2, d) :: post = (pre ++ [(k, c)]) ++ (k2, d) :: post := by simp
 have e2 : bp ++ bt :: b2 :: bq = (bp ++ [bt]) ++ b2 :: bq := by simp
 rw [e1, e2] at o
 have := o.cells (by simp [hl])
 simpa using this
set_option maxHeartbeats 1600000 in
theorem zl6 {pk : Nat -> Prop} {base : Nat} (hpk : ∀ x, base <= x -> pk x) (h b : Nat) (pre post : List (Str × Tr h)) (k : Str) (c : Tr h) (bs : List Nat) (dss : List (List Nat)) (A1 A2 : Option Addr) (c1 n c2 : Nat) (w : World)
   (o : Opn pk base w h b (pre ++ (k, c) :: post) bs dss A1 c1 A2 n c2) (hn : n <= 400) (hkid : ∀ e ∈ pre ++ (k, c) :: post, zd2 h e.2 /\ e.1.size <= 15) (hbase : base <= w.heap.size) (hnd : dss.flatten.Nodup) :
   Calls Tryz.prog 120 #[P b, .int .i64 pre.length] w fun e w' => e = .returned (.tuple #[]) /\ ∃ bs' dss' A2' n' c2', Opn pk base w' h b (zbr h pre k c post) bs' dss' A1 c1 A2' n' c2' /\ Below base w w' /\ dss'.flatten.Nodup /\ ∀ x ∈ dss'.flatten, x ∈ dss.flatten \/ w.heap.size <= x := by
 have hlen := o.len
 simp only [List.length_append, List.length_cons] at hlen
 obtain ⟨g, cur, rfl, hbg, hgb, _⟩ := zcx o.ks (by omega)
 obtain ⟨bp, bc, bq, dp, dc, dq, hbs, hds, hl1, hl2, hk1, hk2, hk3⟩ := RepL.cut o.kids
 have hcs := (hbs ▸ o).cells hl1
 obtain ⟨i, hi⟩ : ∃ i, i = pre.length := ⟨_, rfl⟩
 rw [<- hi] at hcs
 have e1 : w.cell? ⟨b, 4, none⟩ = some (.slice (some ⟨g, 0, none⟩) n c2) := by rw [o.node.cell]; rfl
 have e2 : w.cell? ⟨g, i * 2 + 1, none⟩ = some (P bc) := hcs.2
 have q1 : (0 : Int) <= (i : Int) := by omega
 have q2 : (i : Int) < (n : Int) := by omega
 have hkc := hkid (k, c) (by simp)
 have THIN := zaa (zsn h c bc dc w hk2.rep hkc.1.2.1 (Nat.le_trans hkc.1.2.2 (by omega)) (Nat.le_trans hkc.1.1.size (by have := hkc.1.2.2; omega)))
 rw [<- hi]
 have O := zaa o
 have HI := zaa hi
 have HKID := zaa hkid
 have HND := zaa hnd
 have HL := zaa hlen
 have HBS := zaa hbs
 have HDS := zaa hds
 have HL1 := zaa hl1
 have HL2 := zaa hl2
 clear o hi hlen hl1 hl2 hbs hds hkid hnd hcs
 unfold P at e2 ⊢
 go_enter Tryz.func120, Tryz.ntmps120
 go_upto_region 1 with fail
 go_cut [24] (fun s24 wx => s24 = .bool (Tr.thin h c && decide (1 < n)) /\ Below w.heap.size w wx)
 case first =>
  go_wp2_with (first | (go_at_call 161; refine THIN.out.mono ?_; rintro e w1 ⟨rfl, hb1⟩
                        have e11 : w1.cell? ⟨b, 4, none⟩ = some (.slice (some ⟨g, 0, none⟩) n c2) := (hb1.cell (O.out.node.lt)).trans e1))
  all_goals (go_meet; refine ⟨?_, hb1⟩)
  all_goals first | (simp [*]; done) | (simp [*]; omega)
 case rest =>
  obtain ⟨rfl, hb1⟩ := hcut
  go_upto_if 24 with fail
  go_cut [1, 4] (fun s1 s4 wx => ∃ pre' k' c' post' A2' n' c2' bp' bt' bq' dp' dt' dq', s1 = .int .i64 (List.length (α := Str × Tr h) pre' : Nat) /\ s4 = P bt' /\ Opn pk base wx h b (pre' ++ (k', c') :: post') (bp' ++ bt' :: bq') (dp' ++ dt' :: dq') A1 c1 A2' n' c2' /\ bp'.length = pre'.length /\ dp'.length = pre'.length /\
   zbr h pre k c post = pre' ++ fix h k' c' ++ post' /\ Below base w wx /\ (dp' ++ dt' :: dq').flatten.Nodup /\ (∀ x ∈ (dp' ++ dt' :: dq').flatten, x ∈ dss.flatten \/ w.heap.size <= x) /\ ElOk h c' /\ Tr.len h c' <= 400 /\ (1 <= Tr.len h c' \/ h = 0) /\ n' <= 400 /\ w.heap.size <= wx.heap.size)
  case first =>
   by_cases hth : Tr.thin h c = true /\ 1 < n
   . obtain ⟨ht, hn1⟩ := hth
     have hb : (Tr.thin h c && decide (1 < n)) = true := by simp [ht, hn1]
     obtain ⟨pre', k1, a, k2, d, post', hsplit, hpl, hme⟩ := zq5 (k := k) (c := c) (pre := pre) (post := post) ht (by rw [<- HL.out]; exact hn1)
     have o1 := O.out.below hb1
     rw [hsplit] at o1
     obtain ⟨bp', x1, br, dp', y1, dr, hbs', hds', l1, l2, r1, r2, r3⟩ := RepL.cut o1.kids
     obtain ⟨x2, bq', y2, dq', rfl, rfl, r4, r5⟩ := r3.head
     rw [hb]
     rw [hbs'] at o1
     have d4 : wc.cell? ⟨b, 4, none⟩ = some (.slice (some ⟨g, 0, none⟩) n c2) := by rw [o1.node.cell]; rfl
     have hz1 := o1.cells l1
     have hz2 := o1.cells2 l1
     obtain ⟨J, hJ⟩ : ∃ J, J = pre'.length := ⟨_, rfl⟩
     rw [<- hJ] at hz1 hz2 hpl
     have g1 : wc.cell? ⟨g, J * 2 + 1, none⟩ = some (P x1) := hz1.2
     have g2 : wc.cell? ⟨g, (J + 1) * 2, none⟩ = some (.string k2) := hz2.1
     have g3 : wc.cell? ⟨g, (J + 1) * 2 + 1, none⟩ = some (P x2) := hz2.2
     have hJn : J + 2 <= n := by have := o1.len; simp only [List.length_append, List.length_cons] at this; omega
     have O1 := zaa o1
     have HJ := zaa hJ
     have HPL := zaa hpl
     clear hz1 hz2 hJ hbs' o1 hpl
     unfold P at g1 g3
     go_upto_region 3 with fail
     have hmin : (if (n : Int) - 2 < (i : Int) then (n : Int) - 2 else (i : Int)) = (J : Int) := by
      have e1 := HI.out
      have e2 := HL.out
      have e3 := HPL.out
      split <;> omega
     rw [hmin]
     have m0 : (0 : Int) <= (J : Int) := by omega
     have m1 : (J : Int) < (n : Int) := by omega
     have m2 : IntKind.i64.wrap ((J : Int) + 1) = (J : Int) + 1 := by rw [IntKind.wrap_i64]; omega
     have m3 : (J : Int) + 1 < (n : Int) := by omega
     have m4 : (0 : Int) <= (J : Int) + 1 := by omega
     have m5 : ((J : Int) + 1).toNat = J + 1 := by omega
     have hka := HKID.out (k1, a) (by rw [hsplit]; simp)
     have hkd := HKID.out (k2, d) (by rw [hsplit]; simp)
     have R1 := zaa r2
     have R2 := zaa r4
     have R3 := zaa r1
     have R5 := zaa r5
     have HKA := zaa hka
     have HKD := zaa hkd
     clear r2 r4 r1 r5 hka hkd
     go_region_held3 (fun w' => w'.cell? ⟨b, 4, none⟩ = some (.slice (some ⟨g, 0, none⟩) n c2) /\ w'.cell? ⟨g, J * 2 + 1, none⟩ = some (.pointer (some ⟨x1, 0, none⟩)) /\ w'.cell? ⟨g, (J + 1) * 2, none⟩ = some (.string k2) /\ w'.cell? ⟨g, (J + 1) * 2 + 1, none⟩ = some (.pointer (some ⟨x2, 0, none⟩)))
      (first | (exact ⟨d4, g1, g2, g3⟩) | (exact ⟨(hbj.cell O1.out.node.lt).trans d4, (hbj.cell hglt).trans g1, (hbj.cell hglt).trans g2, (hbj.cell hglt).trans g3⟩))
      (first
       | (go_at_call 162; go_loud (
          refine (zva h a d k2 x1 x2 y1 y2 _ (R1.out.below (Below.refl _ _).drew (fun _ hx => hx)) (R2.out.below (Below.refl _ _).drew (fun _ hx => hx)) (Nat.le_trans HKA.out.1.2.2 (by omega)) (Nat.le_trans HKD.out.1.2.2 (by omega)) HKA.out.1.2.1 HKD.out.1.2.1).mono ?_
          rintro e wj ⟨bj, ej1, ej2, rfl, xj, hej1, hej2, yj, hbj0⟩
          have hbj : Below wc.heap.size wc wj := (Below.refl _ _).drew.trans hbj0
          have hglt : g < wc.heap.size := (zic O1.out.ks (by omega)).elim fun _ hh => hh.lt)))
     have OJ := O1.out.below hbj
     obtain ⟨curj, hgj⟩ := zic OJ.ks (by omega)
     have e14 : wj.cell? ⟨b, 4, none⟩ = some (.slice (some ⟨g, 0, none⟩) n c2) := (hbj.cell O1.out.node.lt).trans d4
     have e15 : wj.frozen? ⟨g, J * 2 + 1, none⟩ = false := hgj.frozen _
     have hbgn : ¬ b = g := OJ.node.ne_ hgj (by decide)
     have hjup : ∀ x, up (fp pk b (some ⟨g, 0, none⟩)) wc.drew.heap.size x -> fp pk b (some ⟨g, 0, none⟩) x := by
      rintro x (hx | hx)
      . exact hx
      . have h1 := O1.out.node.lt
        have h2 : wc.heap.size <= x := hx
        exact ⟨hpk x (by have := hb1.size; omega), by omega, fun a ha => by injection ha with ha; subst ha; show x ≠ g; omega⟩
     have o4 := OJ.setKid (xj.more hjup)
     have HXJ := zaa hej1
     have HXJ2 := zaa hej2
     have HBJ := zaa hbj
     have HYJ := zaa yj
     have HOJ := zaa OJ
     have HO4 := zaa o4
     clear xj hej1 hej2 hbj yj hbj0 OJ o4 hgj
     go_upto_region 5 with fail
     obtain ⟨W4, hW4⟩ : ∃ W4, W4 = wj.setCell ⟨g, J * 2 + 1, none⟩ (P bj) := ⟨_, rfl⟩
     have o5 := HO4.out
     rw [zdj _ _ _ _ _ l1, <- HJ.out, <- hW4] at o5
     have e24 : W4.cell? ⟨b, 4, none⟩ = some (.slice (some ⟨g, 0, none⟩) n c2) := by rw [o5.node.cell]; rfl
     have m6 : IntKind.i64.wrap ((J : Int) + 2) = (J : Int) + 2 := by rw [IntKind.wrap_i64]; omega
     unfold P at hW4
     rw [<- hW4]
     have O5 := zaa o5
     have HW4 := zaa hW4
     have KONE := zaa (zb0 (pre' ++ (k1, Tr.join h a k2 d) :: (k2, d) :: post') (bp' ++ bj :: x2 :: bq'))
     clear o5 hW4
     go_wp2_with (go_at_call 163; go_loud (
      refine (zjg base n c2 J (some ⟨g, 0, none⟩) _ _ O5.out.ks hJn (Nat.le_trans hn (by omega)) KONE.out).mono ?_
      rintro e w5 ⟨rfl, ho5, hg5⟩
      have s1 := O5.out.node.grown hg5 (fun e => zae O5.out.ks O5.out.node (by decide) e.symm)
      have s2 : w5.cell? ⟨b, 4, none⟩ = some (.slice (some ⟨g, 0, none⟩) n c2) := by rw [s1.cell]; rfl
      have s3 : w5.frozen? ⟨b, 4, none⟩ = false := s1.frozen 4
      have S1 := zaa s1
      clear s1))
     go_meet
     have hbjs := HBJ.out.size
     have hb1s := hb1.size
     have hw5s := hg5.size
     have hw4s : W4.heap.size = wj.heap.size := by rw [HW4.out]; simp [World.setCell]
     have hbw : Below base w W4 := by rw [HW4.out]; exact ((hb1.mono hbase).trans (HBJ.out.mono (by omega))).setCell hbg _
     have hbw5 : Below base w (w5.setCell ⟨b, 4, none⟩ (.slice (some ⟨g, 0, none⟩) (n - 1) c2)) :=
      ((hbw.trans (zej hg5 (fun g' e => by injection e with e; subst e; exact hbg) (by omega))).setCell O5.out.hb _)
     have hk := O5.out.kids
     rw [hds', zdj _ _ _ _ J (l2.trans HJ.out.symm)] at hk
     obtain ⟨z1, z2, z3⟩ := RepL.cut2 hk l1 l2
     have hko : RepL (FRep (fp pk b (some ⟨g, 0, none⟩)) W4 h) (pre' ++ (k1, Tr.join h a k2 d) :: post') (bp' ++ bj :: bq') (dp' ++ (ej1 ++ ej2 ++ [bj]) :: dq') := RepL.join2 z1 z2 z3.2
     rw [HJ.out, zgz pre' post' k1 k2 _ d bp' bq' bj x2 l1] at ho5
     have hlen5 := O5.out.len
     simp only [List.length_append, List.length_cons] at hlen5
     have hop := O5.out.row (n' := n - 1) hg5 (by simp only [List.length_append, List.length_cons]; omega) ho5 (.inl rfl) hko
     have hds0 : ∀ x ∈ dss.flatten, x < wc.heap.size := fun x hx => (O1.out.kids.ds (fun _ _ _ hk => FRep.ds hk) x hx).2
     have hnd0 := HND.out
     rw [hds', <- HXJ.out, <- HXJ2.out] at hnd0 hds0
     obtain ⟨nd1, nd2⟩ := zpf hnd0 hds0 HYJ.out
     refine ⟨pre', k1, Tr.join h a k2 d, post', some ⟨g, 0, none⟩, n - 1, c2, bp', bj, bq', dp', ej1 ++ ej2 ++ [bj], dq', by rw [HJ.out], rfl, hop, l1, l2, hme, hbw5, nd1, ?_, HKA.out.1.1.join HKD.out.1.1 HKD.out.2, ?_, ?_, by omega, ?_⟩
     . intro x hx
       rcases nd2 x hx with e | e
       . left; rw [hds', <- HXJ.out, <- HXJ2.out]; exact e
       . right; have := HYJ.out; simp only [World.drew] at this; omega
     . rw [zl5]; have := HKA.out.1.2.2; have := HKD.out.1.2.2; omega
     . rw [zl5]; rcases HKA.out.1.2.1 with e | e
       . exact .inl (by omega)
       . exact .inr e
     . simp [World.setCell]; omega
   . have hb : (Tr.thin h c && decide (1 < n)) = false := by
       rw [Bool.and_eq_false_iff]
       by_cases h1 : Tr.thin h c = true
       . right; simp only [decide_eq_false_iff_not]; exact fun h2 => hth ⟨h1, h2⟩
       . left; simpa using h1
     have hst := zpg (k := k) (c := c) (pre := pre) (post := post) (by
      by_cases h1 : Tr.thin h c = true
      . right; rw [<- HL.out]; exact fun h2 => hth ⟨h1, h2⟩
      . left; simpa using h1)
     rw [hb]
     go_wp2_with fail
     go_meet
     have hk := (HKID.out (k, c) (by simp)).1
     refine ⟨pre, k, c, post, some ⟨g, 0, none⟩, n, c2, bp, bc, bq, dp, dc, dq, by rw [HI.out], rfl, ?_, HL1.out, ?_, hst, hb1.mono hbase, ?_, ?_, hk.1, Nat.le_trans hk.2.2 (by omega), hk.2.1, hn, hb1.size⟩
     . rw [<- HBS.out, <- HDS.out]; exact O.out.below hb1
     . exact HL2.out
     . rw [<- HDS.out]; exact HND.out
     . rw [<- HDS.out]; exact fun x hx => .inl hx
  case rest =>
   obtain ⟨pre', k', c', post', A2', n', c2', bp', bt', bq', dp', dt', dq', rfl, rfl, o', hl', hd', hm, hbw, hnd', hds', hel, hlc, hp, hn', hsz⟩ := hcut
   have hlen' := o'.len
   simp only [List.length_append, List.length_cons] at hlen'
   obtain ⟨g', cur', rfl, hbg', hgb', _, _, _, hcm'⟩ := zcx o'.ks (by omega)
   obtain ⟨i', hi'⟩ : ∃ i, i = pre'.length := ⟨_, rfl⟩
   have f1 : wc.cell? ⟨b, 4, none⟩ = some (.slice (some ⟨g', 0, none⟩) n' c2') := by rw [o'.node.cell]; rfl
   have hcs := o'.cells hl'
   rw [<- hi'] at hcs
   have f2 : wc.cell? ⟨g', i' * 2 + 1, none⟩ = some (P bt') := hcs.2
   have hcut' := RepL.cut o'.kids
   have p1 : (0 : Int) <= (i' : Int) := by omega
   have p2 : (i' : Int) < (n' : Int) := by omega
   have hct : FRep (fp pk b (some ⟨g', 0, none⟩)) wc h c' bt' dt' := by
    have := o'.kids.at_ pre'.length (by simp) (by simp; omega) (by simp; omega)
    rw [List.getElem_append_right (by omega), List.getElem_append_right (by omega), List.getElem_append_right (by omega)] at this
    simpa [hl', hd'] using this
   have FULL := zaa (zl1 h c' bt' dt' wc hct.rep hp (Nat.le_trans hlc (by omega)) (Nat.le_trans hel.size (by omega)))
   rw [<- hi']
   by_cases hf : Tr.full h c' = true
   . rw [hf] at FULL
     have O' := zaa o'
     have HI' := zaa hi'
     have HGB := zaa hgb'
     have HCT := zaa hct
     clear o' hi' hgb' hct hcs hcut'
     go_wp2_with (first
      | (go_at_call 85; refine FULL.out.mono ?_; rintro e w1 ⟨rfl, hb2⟩)
      | (go_at_call 86; refine (zoh h c' bt' dt' _ (HCT.out.below hb2 (fun _ hx => hx)) (hel.full hf) (Nat.le_trans hlc (by omega)) (Nat.le_trans hel.size (by omega))).mono ?_
         rintro e w2 ⟨b1, b2, d1, d2, rfl, x1, x2, hdd, y1, y2, y3, hb3⟩
         have hb23 : Below wc.heap.size wc w2 := hb2.trans (hb3.mono hb2.size)
         have o2 := O'.out.below hb23
         have g2 := HGB.out.below hb23 HGB.out.lt
         have f12 : w2.cell? ⟨b, 4, none⟩ = some (.slice (some ⟨g', 0, none⟩) n' c2') := (hb23.cell O'.out.node.lt).trans f1
         have f22 : w2.cell? ⟨g', i' * 2 + 1, none⟩ = some (P bt') := (hb23.cell HGB.out.lt).trans f2
         have f13 := fun o1 => za3 o1 f12
         have f23 := fun o1 => za3 o1 f22
         have f33 : ∀ o1, (w2.alloc o1).frozen? ⟨g', i' * 2 + 1, none⟩ = false := fun o1 => (g2.alloc o1).frozen _
         have O2 := zaa o2
         clear o2))
     have hz2 : wc.heap.size <= w1.heap.size := hb2.size
     have hz3 : w1.heap.size <= w2.heap.size := hb3.size
     have hup : ∀ x, up (fp pk b (some ⟨g', 0, none⟩)) w1.heap.size x -> fp pk b (some ⟨g', 0, none⟩) x := by
      rintro x (hx | hx)
      . exact hx
      . have h1 := O'.out.node.lt
        have h2 := HGB.out.lt
        exact ⟨hpk x (by omega), by omega, fun a ha => by injection ha with ha; subst ha; show x ≠ g'; omega⟩
     have o3 := (O2.out.below ((Below.refl _ _).alloc (Nat.le_refl _) (Obj.cells #[.string (Tr.split h c').2.1, P b2] 139))).setKid (x1.below ((Below.refl _ _).alloc (Nat.le_refl _) _) hup)
     rw [<- HI'.out] at o3
     have fx2 : FRep (fp pk b (some ⟨g', 0, none⟩)) (w2.alloc (Obj.cells #[.string (Tr.split h c').2.1, P b2] 139)) h (Tr.split h c').2.2 b2 (d2 ++ [b2]) := x2.below ((Below.refl _ _).alloc (Nat.le_refl _) _) hup
     have bx : Blk ((w2.alloc (Obj.cells #[.string (Tr.split h c').2.1, P b2] 139)).setCell ⟨g', i' * 2 + 1, none⟩ (P b1)) w2.heap.size 139 #[.string (Tr.split h c').2.1, P b2] := (Blk.new w2 _ _).far (by have := HGB.out.lt; show w2.heap.size ≠ g'; omega) _
     obtain ⟨w3, hw3⟩ : ∃ w3, w3 = ((w2.alloc (Obj.cells #[.string (Tr.split h c').2.1, P b2] 139)).setCell ⟨g', i' * 2 + 1, none⟩ (P b1)) := ⟨_, rfl⟩
     rw [<- hw3] at o3 bx ⊢
     have j1 : w3.cell? ⟨b, 4, none⟩ = some (.slice (some ⟨g', 0, none⟩) n' c2') := by rw [o3.node.cell]; rfl
     have j2 : w3.cell? ⟨w2.heap.size, 0, none⟩ = some (.string (Tr.split h c').2.1) := by rw [bx.cell]; rfl
     have j3 : w3.cell? ⟨w2.heap.size, 1, none⟩ = some (P b2) := by rw [bx.cell]; rfl
     have j11 := fun o1 => za3 o1 j1
     have j4 : IntKind.i64.wrap ((i' : Int) + 1) = (i' : Int) + 1 := by rw [IntKind.wrap_i64]; omega
     have O3 := zaa o3
     have BX := zaa bx
     have W3 := zaa hw3
     have FX2 := zaa fx2
     clear o3 bx hw3 fx2 f12 f22 f13 f23 f33
     have ne3 : (Value.slice (some ⟨g', 0, none⟩) n' c2').ownBlock ≠ some w3.heap.size := by
      obtain ⟨g9, cur9, hA9, _, hb9, _⟩ := zcx O3.out.ks (by omega)
      injection hA9 with hA9
      injection hA9 with hA9
      subst hA9
      have := hb9.lt
      simp only [Value.ownBlock, ne_eq, Option.some.injEq]
      omega
     have hi1 : i' + 1 <= n' := by omega
     have HLEN := zaa hlen'
     clear hlen'
     have hbz : base <= w3.heap.size := by
      have e2 : w3.heap.size = w2.heap.size + 1 := by
       rw [W3.out]
       try simp [World.setCell]
      omega
     have hone : ∀ u ∈ ([.string (Tr.split h c').2.1, P b2] : List Value), u.oneCell' = true := by
      intro u hu
      simp only [List.mem_cons, List.not_mem_nil, or_false] at hu
      rcases hu with rfl | rfl <;> rfl
     have HONE := zaa hone
     have KONE := zaa (zb0 (pre' ++ (k', (Tr.split h c').1) :: post') ((bp' ++ bt' :: bq').set i' b1))
     have hc2 : c2' <= maxLen := hcm'
     clear hone
     go_region_law (first
      | (go_simp; go_at_call 164
         refine (zjf base n' i' w3.heap.size (some ⟨g', 0, none⟩) c2' _ (.string (Tr.split h c').2.1) (P b2) _ (zat O3.out.ks (((Below.refl _ _).alloc (Nat.le_refl _) _).drew)) (Blk.new w3 _ _).drew ne3 hi1 (Nat.le_trans hn' (by omega)) KONE.out HONE.out (Nat.le_trans hbz (by simp)) hc2).mono ?_
         rintro e w5 ⟨A5, c5, rfl, ho5, hg5, hat5⟩
         have s1 := ((O3.out.below ((Below.refl _ _).alloc (Nat.le_refl _) (Obj.cells #[.string (Tr.split h c').2.1, P b2] 139)))).node.drew.grown hg5 (fun e => zae O3.out.ks O3.out.node (by decide) e.symm)
         have s2 : w5.cell? ⟨b, 4, none⟩ = some (.slice (some ⟨g', 0, none⟩) n' c2') := by rw [s1.cell]; rfl
         have s3 : w5.frozen? ⟨b, 4, none⟩ = false := s1.frozen 4
         have S1 := zaa s1
         clear s1))
     all_goals
      go_end0
      have hal := O3.out.below (((Below.refl w3.heap.size w3).alloc (Nat.le_refl _) (Obj.cells #[.string (Tr.split h c').2.1, P b2] 139)).drew)
      have hfx : FRep (fp pk b (some ⟨g', 0, none⟩)) w3 h (Tr.split h c').2.2 b2 (d2 ++ [b2]) := by
       rw [W3.out]
       exact FX2.out.move (Agree.setCell _ ⟨g', i' * 2 + 1, none⟩ (P b1) (fun hx => hx.2.2 _ rfl rfl)) (fun _ hx => hx)
      have hfx' := hfx.below (((Below.refl w3.heap.size w3).alloc (Nat.le_refl _) (Obj.cells #[.string (Tr.split h c').2.1, P b2] 139)).drew) (fun _ hx => hx)
      have hk := hal.kids
      rw [zdj _ _ _ _ i' (hl'.trans HI'.out.symm), zdj _ _ _ _ i' (hd'.trans HI'.out.symm)] at hk
      obtain ⟨z1, z2, z3⟩ := RepL.cut2 hk hl' hd'
      rw [zdj _ _ _ _ i' (hl'.trans HI'.out.symm), HI'.out, zgy pre' post' k' _ (Tr.split h c').2.1 (Tr.split h c').2.2 bp' bq' b1 b2 hl'] at ho5
      have hlen3 := hal.len
      simp only [List.length_append, List.length_cons] at hlen3
      have hop := hal.row (es' := pre' ++ (k', (Tr.split h c').1) :: ((Tr.split h c').2.1, (Tr.split h c').2.2) :: post') hg5 (by simp only [List.length_append, List.length_cons]; omega) ho5 hat5 (RepL.join2 z1 z2 (show RepL _ (((Tr.split h c').2.1, (Tr.split h c').2.2) :: post') (b2 :: bq') ((d2 ++ [b2]) :: dq') from ⟨hfx', z3⟩))
      have hw3s : w3.heap.size = w2.heap.size + 1 := by rw [W3.out]; simp [World.setCell]
      have hbw3 : Below base w w3 := by
       rw [W3.out]
       exact (((hbw.trans (hb2.mono (by omega))).trans (hb3.mono (by omega))).alloc (by omega) _).setCell hbg' _
      have hbw5 := (((hbw3.alloc (by omega) (Obj.cells #[.string (Tr.split h c').2.1, P b2] 139)).drew.trans (zej hg5 (fun g' e => by injection e with e; subst e; exact hbg') (by simp; omega))).setCell (p := ⟨b, 4, none⟩) O3.out.hb (.slice A5 (n' + 1) c5))
      have hds0 : ∀ x ∈ (dp' ++ dt' :: dq').flatten, x < wc.heap.size := fun x hx => (O'.out.kids.ds (fun _ _ _ hk => FRep.ds hk) x hx).2
      have hnd0 := hnd'
      rw [<- hdd] at hnd0 hds0
      obtain ⟨nd1, nd2⟩ := zib hnd0 hds0 (Nat.le_trans hz2 y1) (Nat.le_trans hz2 y2) y3
      have hfix : fix h k' c' = [(k', (Tr.split h c').1), ((Tr.split h c').2.1, (Tr.split h c').2.2)] := by simp [fix, hf]
      refine ⟨rfl, bp' ++ b1 :: b2 :: bq', dp' ++ (d1 ++ [b1]) :: (d2 ++ [b2]) :: dq', A5, n' + 1, c5, ?_, hbw5, nd1, ?_⟩
      . rw [hm, hfix, List.append_assoc]
        exact hop
      . intro x hx
        rcases nd2 x hx with e | e | e
        . exact hds' x (by rw [<- hdd]; exact e)
        . right; omega
        . right; omega
   . have hf' : Tr.full h c' = false := by simpa using hf
     rw [hf'] at FULL
     go_wp2_with (first | (go_at_call 85; refine FULL.out.mono ?_; rintro e w1 ⟨rfl, hb2⟩))
     go_end0
     refine ⟨rfl, bp' ++ bt' :: bq', dp' ++ dt' :: dq', some ⟨g', 0, none⟩, n', c2', ?_, hbw.trans (hb2.mono (Nat.le_trans hbase hsz)), hnd', hds'⟩
     rw [hm]
     have : fix h k' c' = [(k', c')] := by simp [fix, hf']
     rw [this]
     simpa using o'.below hb2
end Go.Proofs.YtemondlgcmpbbaaGreatDoor
