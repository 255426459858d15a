/- What Commit does to a tree: its dirty nodes get blocks, children first, and a time; then they are clean. -/
import Derived.Test.YtemondlgcmpbbaaGreatDoorMP21
import Derived.Test.YtemondlgcmpbbaaGreatDoorMP09
namespace Go.Proofs.YtemondlgcmpbbaaGreatDoor
open Go.RowKit
set_option maxRecDepth 100000
def za3 {h : Nat} (f : Tr h -> List Nat -> Tr h) : List (Str × Tr h) -> List Nat -> List (Str × Tr h)
 | [], _ => []
 | (k, c) :: r, xs => (k, f c (xs.take (zae h c))) :: za3 f r (xs.drop (zae h c))
def lay (g : Nat) (d : Bool) : (h : Nat) -> Tr h -> List Nat -> Tr h
 | 0, n, xs => (if Nd.dirty n then ⟨xs.headD 0, g, d, Nd.es n⟩ else n : Nd Str)
 | h + 1, n, xs => (if Nd.dirty n then ⟨xs.getLastD 0, g, d, za3 (lay g d h) (Nd.es n) xs⟩ else ⟨Nd.blk n, Nd.gen n, Nd.dirty n, za3 (lay g d h) (Nd.es n) xs⟩ : Nd (Tr h))
def LikeL {K L : Type} (R : K -> L -> Prop) : List (Str × K) -> List (Str × L) -> Prop
 | [], [] => True
 | a :: X, b :: Y => a.1 = b.1 /\ R a.2 b.2 /\ LikeL R X Y
 | _, _ => False
def Like : (h : Nat) -> Tr h -> Tr h -> Prop
 | 0, a, b => Nd.es a = Nd.es b
 | h + 1, a, b => LikeL (Like h) (Nd.es a) (Nd.es b)
theorem LikeL.len {K L : Type} {R : K -> L -> Prop} : ∀ {X : List (Str × K)} {Y : List (Str × L)}, LikeL R X Y -> X.length = Y.length
 | [], [], _ => rfl
 | _ :: _, _ :: _, h => by simp [LikeL.len h.2.2]
 | [], _ :: _, h => h.elim
 | _ :: _, [], h => h.elim
theorem LikeL.all {K L : Type} {R : K -> L -> Prop} {P : K -> Prop} {Q : L -> Prop} (hR : ∀ a b, R a b -> P a -> Q b) : ∀ {X : List (Str × K)} {Y : List (Str × L)}, LikeL R X Y -> (∀ e ∈ X, P e.2) -> ∀ e ∈ Y, Q e.2
 | [], [], _, _, e, he => by cases he
 | a :: X, b :: Y, h, hp, e, he => by
   rcases List.mem_cons.1 he with rfl | he
   . exact hR _ _ h.2.1 (hp a (List.mem_cons_self ..))
   . exact LikeL.all hR h.2.2 (fun e he => hp e (List.mem_cons_of_mem _ he)) e he
 | [], _ :: _, h, _, _, _ => h.elim
 | _ :: _, [], h, _, _, _ => h.elim
theorem LikeL.ksum {K L : Type} {R : K -> L -> Prop} : ∀ {X : List (Str × K)} {Y : List (Str × L)}, LikeL R X Y -> ksum X = ksum Y
 | [], [], _ => rfl
 | a :: X, b :: Y, h => by
   have := LikeL.ksum h.2.2
   unfold Proofs.YtemondlgcmpbbaaGreatDoor.ksum at *
   simp only [List.map_cons, List.sum_cons, this]
   unfold ksz
   rw [h.1]
 | [], _ :: _, h => h.elim
 | _ :: _, [], h => h.elim
theorem Like.pairs : ∀ {h : Nat} {a b : Tr h}, Like h a b -> Tr.pairs h a = Tr.pairs h b
 | 0, _, _, hl => hl
 | h + 1, a, b, hl => by
   have : ∀ {X Y : List (Str × Tr h)}, LikeL (Like h) X Y -> (X.flatMap fun e => Tr.pairs h e.2) = Y.flatMap fun e => Tr.pairs h e.2 := by
    intro X
    induction X with
    | nil => intro Y hl; cases Y with | nil => rfl | cons _ _ => exact hl.elim
    | cons a X ih => intro Y hl; cases Y with
      | nil => exact hl.elim
      | cons b Y => simp only [List.flatMap_cons]; rw [Like.pairs hl.2.1, ih hl.2.2]
   exact this hl
theorem LikeL.chain {K L : Type} {R : K -> L -> Prop} {W : Str -> Option Str -> K -> Prop} {V : Str -> Option Str -> L -> Prop} (hR : ∀ lo hi a b, R a b -> W lo hi a -> V lo hi b) : ∀ {X : List (Str × K)} {Y : List (Str × L)} {lo : Str} {hi : Option Str}, LikeL R X Y -> Chain W lo hi X -> Chain V lo hi Y
 | [], [], _, _, _, h => h.elim
 | a :: X, b :: Y, lo, hi, h, hc => by
   obtain ⟨h1, h2, h3⟩ := h
   obtain ⟨c1, c2, c3⟩ := hc
   refine ⟨h1 ▸ c1, h1 ▸ c2, ?_⟩
   rcases c3 with ⟨rfl, c4⟩ | ⟨k, k1, k2, k3, k4⟩
   . left
     refine ⟨?_, hR _ _ _ _ h2 c4⟩
     cases Y with | nil => rfl | cons _ _ => exact h3.elim
   . exact .inr ⟨k, k1, k2, hR _ _ _ _ h2 k3, LikeL.chain hR h3 k4⟩
 | [], _ :: _, _, _, h, _ => h.elim
 | _ :: _, [], _, _, h, _ => h.elim
theorem Like.wf : ∀ {h : Nat} {a b : Tr h} {lo : Str} {hi : Option Str}, Like h a b -> WF h lo hi a -> WF h lo hi b
 | 0, _, _, lo, hi, hl, hw => by
   have hl : Nd.es _ = Nd.es _ := hl
   show LeafWF lo hi (Nd.es _)
   rw [<- hl]; exact hw
 | h + 1, a, b, _, _, hl, hw => LikeL.chain (R := Like h) (X := Nd.es a) (Y := Nd.es b) (W := WF h) (V := WF h) (fun _ _ _ _ h k => Like.wf h k) hl hw
theorem Like.fit : ∀ {h : Nat} {a b : Tr h}, Like h a b -> Fit h a -> Fit h b
 | 0, _, _, hl, hw => by
   have hl : Nd.es _ = Nd.es _ := hl
   show lsum (Nd.es _) <= 116
   rw [<- hl]; exact hw
 | h + 1, a, b, hl, hw => ⟨by rw [<- LikeL.ksum (R := Like h) (X := Nd.es a) (Y := Nd.es b) hl]; exact hw.1, LikeL.all (R := Like h) (X := Nd.es a) (Y := Nd.es b) (P := Fit h) (Q := Fit h) (fun _ _ h k => Like.fit h k) hl hw.2⟩
theorem Like.reg : ∀ {h : Nat} {a b : Tr h}, Like h a b -> Reg h a -> Reg h b
 | 0, _, _, hl, hw => by
   have hl : Nd.es _ = Nd.es _ := hl
   show 2 <= (Nd.es _).length
   rw [<- hl]; exact hw
 | h + 1, a, b, hl, hw => ⟨by rw [<- LikeL.len (R := Like h) (X := Nd.es a) (Y := Nd.es b) hl]; exact hw.1, LikeL.all (R := Like h) (X := Nd.es a) (Y := Nd.es b) (P := Reg h) (Q := Reg h) (fun _ _ h k => Like.reg h k) hl hw.2⟩
theorem Like.rtl : ∀ {h : Nat} {a b : Tr h}, Like h a b -> Rtl h a -> Rtl h b
 | 0, _, _, hl, hw => by
   have hl : Nd.es _ = Nd.es _ := hl
   show 1 <= (Nd.es _).length
   rw [<- hl]; exact hw
 | h + 1, a, b, hl, hw => ⟨by rw [<- LikeL.len (R := Like h) (X := Nd.es a) (Y := Nd.es b) hl]; exact hw.1, LikeL.all (R := Like h) (X := Nd.es a) (Y := Nd.es b) (P := Reg h) (Q := Reg h) (fun _ _ h k => Like.reg h k) hl hw.2⟩
theorem Like.top : ∀ {h : Nat} {a b : Tr h}, Like h a b -> Top h a -> Top h b
 | 0, _, _, hl, hw => Like.rtl hl hw
 | h + 1, a, b, hl, hw => by
   rcases hw with hw | ⟨e, he, ht⟩
   . exact .inl (Like.rtl hl hw)
   . right
     have hl : LikeL (Like h) (Nd.es a) (Nd.es b) := hl
     rw [he] at hl
     cases hb : Nd.es b with
     | nil => rw [hb] at hl; exact hl.elim
     | cons d r =>
       rw [hb] at hl
       cases r with
       | nil => exact ⟨d, rfl, Like.top hl.2.1 ht⟩
       | cons _ _ => exact hl.2.2.elim
theorem Like.nodes : ∀ {h : Nat} {a b : Tr h}, Like h a b -> nodes h a = nodes h b
 | 0, _, _, _ => rfl
 | h + 1, a, b, hl => by
   have : ∀ {X Y : List (Str × Tr h)}, LikeL (Like h) X Y -> (X.map fun e => Proofs.YtemondlgcmpbbaaGreatDoor.nodes h e.2).sum = (Y.map fun e => Proofs.YtemondlgcmpbbaaGreatDoor.nodes h e.2).sum := by
    intro X
    induction X with
    | nil => intro Y hl; cases Y with | nil => rfl | cons _ _ => exact hl.elim
    | cons a X ih => intro Y hl; cases Y with
      | nil => exact hl.elim
      | cons b Y => simp only [List.map_cons, List.sum_cons]; rw [Like.nodes hl.2.1, ih hl.2.2]
   show 1 + _ = 1 + _
   rw [this hl]
theorem zf4 {h : Nat} {f : Tr h -> List Nat -> Tr h} (hf : ∀ c xs, Like h c (f c xs)) : ∀ (X : List (Str × Tr h)) (xs : List Nat), LikeL (Like h) X (za3 f X xs)
 | [], _ => trivial
 | (_k, _c) :: r, _xs => ⟨rfl, hf _ _, zf4 hf r _⟩
theorem zcy {g : Nat} {d : Bool} {n : Tr 0} (xs : List Nat) (hd : Nd.dirty n = true) : lay g d 0 n xs = (⟨xs.headD 0, g, d, Nd.es n⟩ : Nd Str) := if_pos hd
theorem zcz {g : Nat} {d : Bool} {n : Tr 0} (xs : List Nat) (hd : ¬ Nd.dirty n = true) : lay g d 0 n xs = n := if_neg hd
theorem zcb {g h : Nat} {d : Bool} {n : Tr (h + 1)} (xs : List Nat) (hd : Nd.dirty n = true) : lay g d (h + 1) n xs = (⟨xs.getLastD 0, g, d, za3 (lay g d h) (Nd.es n) xs⟩ : Nd (Tr h)) := if_pos hd
theorem zc7 {g h : Nat} {d : Bool} {n : Tr (h + 1)} (xs : List Nat) (hd : ¬ Nd.dirty n = true) : lay g d (h + 1) n xs = (⟨Nd.blk n, Nd.gen n, Nd.dirty n, za3 (lay g d h) (Nd.es n) xs⟩ : Nd (Tr h)) := if_neg hd
theorem zc8 (g : Nat) (d : Bool) : ∀ (h : Nat) (n : Tr h) (xs : List Nat), Like h n (lay g d h n xs)
 | 0, n, xs => by
   by_cases hd : Nd.dirty n = true
   . rw [zcy xs hd]; rfl
   . rw [zcz xs hd]; rfl
 | h + 1, n, xs => by
   by_cases hd : Nd.dirty n = true
   . rw [zcb xs hd]; exact zf4 (zc8 g d h) (Nd.es n) xs
   . rw [zc7 xs hd]; exact zf4 (zc8 g d h) (Nd.es n) xs
theorem zp9 (g : Nat) : ∀ (h : Nat) (n : Tr h) (xs : List Nat), zae h (lay g false h n xs) = 0
 | 0, n, xs => by
   by_cases hd : Nd.dirty n = true
   . rw [zcy xs hd]; rfl
   . rw [zcz xs hd]; exact if_neg hd
 | h + 1, n, xs => by
   have : ∀ (X : List (Str × Tr h)) (xs : List Nat), ((za3 (lay g false h) X xs).map fun e => zae h e.2).sum = 0 := by
    intro X
    induction X with
    | nil => intro _; rfl
    | cons a X ih => intro xs; simp only [za3, List.map_cons, List.sum_cons]; rw [ih, zp9 g h]
   by_cases hd : Nd.dirty n = true
   . rw [zcb xs hd]
     exact (Nat.zero_add _).trans (this _ _)
   . rw [zc7 xs hd]
     show (if Nd.dirty n then 1 else 0) + _ = 0
     rw [if_neg hd]
     exact (Nat.zero_add _).trans (this _ _)
theorem zkc : ∀ (h : Nat) (n : Tr h), zae h n = 0 -> DU h n
 | 0, _, _ => trivial
 | h + 1, n, hc => by
   have hc : (if Nd.dirty n then 1 else 0) + zak h (Nd.es n) = 0 := hc
   refine ⟨fun _ => by omega, fun e he => zkc h e.2 ?_⟩
   have : ∀ (X : List (Str × Tr h)), zak h X = 0 -> ∀ e ∈ X, zae h e.2 = 0 := by
    intro X
    induction X with
    | nil => intro _ e he; cases he
    | cons a X ih =>
      intro h0 e he
      rw [zbi] at h0
      rcases List.mem_cons.1 he with rfl | he
      . omega
      . exact ih (by omega) e he
   exact this _ (by omega) e he
theorem zd4 (g : Nat) (d : Bool) : ∀ (h : Nat) (n : Tr h) (xs : List Nat), zae h n = 0 -> lay g d h n xs = n
 | 0, n, xs, hc => by
   by_cases hd : Nd.dirty n = true
   . have : zae 0 n = 1 := if_pos hd
     omega
   . exact zcz xs hd
 | h + 1, n, xs, hc => by
   have hc : (if Nd.dirty n then 1 else 0) + zak h (Nd.es n) = 0 := hc
   have : ∀ (X : List (Str × Tr h)) (xs : List Nat), zak h X = 0 -> za3 (lay g d h) X xs = X := by
    intro X
    induction X with
    | nil => intro _ _; rfl
    | cons a X ih =>
      intro xs h0
      rw [zbi] at h0
      obtain ⟨k, c⟩ := a
      simp only [za3]
      rw [zd4 g d h c _ (by simp only at h0; omega), ih _ (by omega)]
   by_cases hd : Nd.dirty n = true
   . rw [if_pos hd] at hc; omega
   . rw [if_neg hd] at hc
     rw [zc7 xs hd, this _ _ (by omega)]
     rfl
/-! ### the same in memory -/
theorem zkd (d : Bool) (b : Nat) : (zaf d b).length = if d then 1 else 0 := by cases d <;> rfl
theorem RepL.count {h : Nat} {R : Tr h -> Nat -> List Nat -> Prop} (hR : ∀ k b d, R k b d -> d.length = zae h k) : ∀ {es : List (Str × Tr h)} {bs : List Nat} {dss : List (List Nat)}, RepL R es bs dss -> dss.flatten.length = zak h es
 | [], [], [], _ => rfl
 | e :: es, _ :: _, d :: dss, hk => by
   rw [List.flatten_cons, List.length_append, zbi, hR _ _ _ hk.1, RepL.count hR hk.2]
 | [], [], _ :: _, h => h.elim
 | [], _ :: _, _, h => h.elim
 | _ :: _, [], _, h => h.elim
 | _ :: _, _ :: _, [], h => h.elim
theorem FRep.count {ok : Nat -> Prop} {w : World} : ∀ {h : Nat} {t : Tr h} {b : Nat} {ds : List Nat}, FRep ok w h t b ds -> ds.length = zae h t
 | 0, t, b, ds, ⟨_, _, _, _, _, _, _, hd⟩ => by subst hd; exact zkd _ _
 | h + 1, t, b, ds, ⟨_, _, _, _, _, _, _, _, _, hk, hd⟩ => by
   subst hd
   rw [List.length_append, zkd, RepL.count (fun _ _ _ hr => hr.count) hk]
   exact Nat.add_comm _ _
def zjr (w : World) (y : Nat) : Prop := ∃ blk gen pv kv, NodeAt w y blk gen true pv kv
theorem FRep.dirt {ok : Nat -> Prop} {w : World} : ∀ {h : Nat} {t : Tr h} {b : Nat} {ds : List Nat}, FRep ok w h t b ds -> ∀ y ∈ ds, zjr w y
 | 0, t, b, ds, ⟨_, _, _, _, hn, _, _, hd⟩ => by
   subst hd
   intro y hy
   unfold zaf at hy
   split at hy
   . rename_i hd
     rw [List.mem_singleton.1 hy]
     have := hn.node
     rw [hd] at this
     exact ⟨_, _, _, _, this⟩
   . cases hy
 | h + 1, t, b, ds, ⟨_, _, _, _, _, _, hn, _, _, hk, hd⟩ => by
   subst hd
   intro y hy
   rcases List.mem_append.1 hy with hy | hy
   . exact RepL.ds (P := zjr w) (fun _ _ _ hr => hr.dirt) hk y hy
   . unfold zaf at hy
     split at hy
     . rename_i hd
       rw [List.mem_singleton.1 hy]
       have := hn.node
       rw [hd] at this
       exact ⟨_, _, _, _, this⟩
     . cases hy
structure Laid (ok : Nat -> Prop) (D : List Nat) (X : Nat -> Nat) (g : Nat) (d : Bool) (w w' : World) : Prop where
 dirt : ∀ y ∈ D, zjr w y
 at_ : ∀ y ∈ D, ∀ blk gen pv kv, NodeAt w y blk gen true pv kv -> NodeAt w' y (X y) g d pv kv
 rest : ∀ y, ok y -> y ∉ D -> y < w.heap.size -> w'.heap[y]? = w.heap[y]?
theorem Laid.notin {ok : Nat -> Prop} {D : List Nat} {X : Nat -> Nat} {g : Nat} {d : Bool} {w w' : World} (hl : Laid ok D X g d w w') {y : Nat} {T : TypeId} {cs : Array Value} (hy : Blk w y T cs) (hT : T ≠ 137) : y ∉ D := fun h => by
 obtain ⟨_, _, _, _, hn⟩ := hl.dirt y h
 exact Blk.ne_ hy hn hT rfl
theorem Laid.clean {ok : Nat -> Prop} {D : List Nat} {X : Nat -> Nat} {g : Nat} {d : Bool} {w w' : World} (hl : Laid ok D X g d w w') {y blk gen : Nat} {pv kv : Value} (hy : NodeAt w y blk gen false pv kv) : y ∉ D := fun h => by
 obtain ⟨_, _, _, _, hn⟩ := hl.dirt y h
 have h1 := hy.cell 2
 have h2 := hn.cell 2
 rw [h1] at h2
 simp at h2
theorem Laid.row {ok : Nat -> Prop} {D : List Nat} {X : Nat -> Nat} {g : Nat} {d : Bool} {w w' : World} (hl : Laid ok D X g d w w') {T : TypeId} {A : Option Addr} {n c : Nat} {xs : List Value} (h : SlC w T (.slice A n c) n xs) (hT : T ≠ 137) (hr : rowOk ok n A) :
   SlC w' T (.slice A n c) n xs := by
 refine h.move (ok := fun y => ok y /\ y ∉ D /\ y < w.heap.size) (fun h0 a ha => ?_) (fun y hy => hl.rest y hy.1 hy.2.1 hy.2.2)
 obtain ⟨g', cur, e, hg⟩ := h.row_blk h0
 rw [ha] at e
 injection e with e
 exact ⟨hr h0 a ha, hl.notin (e ▸ hg) hT, h.row_lt h0 a ha⟩
theorem RepL.lay {h : Nat} {R R' : Tr h -> Nat -> List Nat -> Prop} {f : Tr h -> List Nat -> Tr h} {X : Nat -> Nat} {D : List Nat} {d : Bool} (hc : ∀ k b ds, R k b ds -> ds.length = zae h k) (hR : ∀ k b ds, R k b ds -> (∀ y ∈ ds, y ∈ D) -> R' (f k (ds.map X)) b (if d then ds else [])) :
   ∀ {es : List (Str × Tr h)} {bs : List Nat} {dss : List (List Nat)} (ys : List Nat), RepL R es bs dss -> (∀ y ∈ dss.flatten, y ∈ D) -> ∃ dss', RepL R' (za3 f es (dss.flatten.map X ++ ys)) bs dss' /\ dss'.flatten = if d then dss.flatten else []
 | [], [], [], _, _, _ => ⟨[], trivial, by cases d <;> rfl⟩
 | (k, c) :: es, b :: bs, ds :: dss, ys, hk, hD => by
   have hl := hc _ _ _ hk.1
   simp only at hl
   obtain ⟨dss', h1, h2⟩ := RepL.lay hc hR ys hk.2 (fun y hy => hD y (by rw [List.flatten_cons]; exact List.mem_append_right _ hy))
   have h3 := hR _ _ _ hk.1 (fun y hy => hD y (by rw [List.flatten_cons]; exact List.mem_append_left _ hy))
   refine ⟨(if d then ds else []) :: dss', ?_, ?_⟩
   . simp only [za3, List.flatten_cons, List.map_append, List.append_assoc]
     rw [List.take_left' (by rw [List.length_map, hl]), List.drop_left' (by rw [List.length_map, hl])]
     exact ⟨h3, h1⟩
   . rw [List.flatten_cons, h2]
     cases d <;> simp
 | [], [], _ :: _, _, h, _ => h.elim
 | [], _ :: _, _, _, h, _ => h.elim
 | _ :: _, [], _, _, h, _ => h.elim
 | _ :: _, _ :: _, [], _, h, _ => h.elim
theorem zsz {h : Nat} {f : Tr h -> List Nat -> Tr h} : ∀ (es : List (Str × Tr h)) (xs bs : List Nat), kcells (za3 f es xs) bs = kcells es bs
 | [], _, _ => rfl
 | (k, c) :: es, xs, [] => rfl
 | (k, c) :: es, xs, b :: bs => by simp only [za3, kcells, zsz es]
theorem zlb {h : Nat} {f : Tr h -> List Nat -> Tr h} : ∀ (es : List (Str × Tr h)) (xs : List Nat), (za3 f es xs).length = es.length
 | [], _ => rfl
 | (k, c) :: es, xs => by simp only [za3, List.length_cons, zlb es]
theorem FRep.lay {ok : Nat -> Prop} {D : List Nat} {X : Nat -> Nat} {g : Nat} {d : Bool} {w w' : World} (hl : Laid ok D X g d w w') : ∀ {h : Nat} {t : Tr h} {b : Nat} {ds : List Nat}, FRep ok w h t b ds -> (∀ y ∈ ds, y ∈ D) -> FRep ok w' h (lay g d h t (ds.map X)) b (if d then ds else [])
 | 0, t, b, ds, ⟨A1, c1, A2, c2, hn, hb, hr, hd⟩, hD => by
   subst hd
   have hn1 := hn.node
   have r1 := hl.row hn.ps (by decide) hr
   have r2 := hl.row hn.ks (by decide) (rowOk.zero _ _)
   cases hdt : Nd.dirty t with
   | false =>
     rw [hdt] at hn1
     have e : Proofs.YtemondlgcmpbbaaGreatDoor.lay g d 0 t (List.map X (zaf false b)) = t := by unfold Proofs.YtemondlgcmpbbaaGreatDoor.lay; rw [hdt]; rfl
     rw [e]
     refine ⟨A1, c1, A2, c2, ⟨?_, r1, r2⟩, hb, hr, by rw [hdt]; cases d <;> rfl⟩
     rw [hdt]
     exact (hl.rest b hb (hl.clean hn1) hn1.lt).trans hn1
   | true =>
     rw [hdt] at hn1 hD
     have e : Proofs.YtemondlgcmpbbaaGreatDoor.lay g d 0 t (List.map X (zaf true b)) = (⟨X b, g, d, Nd.es t⟩ : Nd Str) := by unfold Proofs.YtemondlgcmpbbaaGreatDoor.lay; rw [hdt]; rfl
     rw [e]
     exact ⟨A1, c1, A2, c2, ⟨hl.at_ b (hD b (by simp [zaf])) _ _ _ _ hn1, r1, r2⟩, hb, hr, by cases d <;> rfl⟩
 | h + 1, t, b, ds, ⟨A1, c1, A2, c2, bs, dss, hn, hb, hr, hk, hd⟩, hD => by
   subst hd
   have hn1 := hn.node
   have r1 := hl.row hn.ps (by decide) (rowOk.zero _ _)
   have r2 := hl.row hn.ks (by decide) hr
   obtain ⟨dss', k1, k2⟩ := RepL.lay (d := d) (f := Proofs.YtemondlgcmpbbaaGreatDoor.lay g d h) (R' := FRep ok w' h) (X := X) (D := D) (fun _ _ _ hr => hr.count) (fun _ _ _ hr hD => FRep.lay hl hr hD) (es := Nd.es t) (List.map X (zaf (Nd.dirty t) b)) hk (fun y hy => hD y (List.mem_append_left _ hy))
   rw [<- List.map_append] at k1
   have hlen : (za3 (Proofs.YtemondlgcmpbbaaGreatDoor.lay g d h) (Nd.es t) (List.map X (dss.flatten ++ zaf (Nd.dirty t) b))).length = (Nd.es t).length := zlb _ _
   have hkc : kcells (za3 (Proofs.YtemondlgcmpbbaaGreatDoor.lay g d h) (Nd.es t) (List.map X (dss.flatten ++ zaf (Nd.dirty t) b))) bs = kcells (Nd.es t) bs := zsz _ _ _
   have hes : Nd.es (Proofs.YtemondlgcmpbbaaGreatDoor.lay g d (h + 1) t (List.map X (dss.flatten ++ zaf (Nd.dirty t) b)) : Nd (Tr h)) = za3 (Proofs.YtemondlgcmpbbaaGreatDoor.lay g d h) (Nd.es t) (List.map X (dss.flatten ++ zaf (Nd.dirty t) b)) := by
    conv => lhs; unfold Proofs.YtemondlgcmpbbaaGreatDoor.lay
    cases hdt : Nd.dirty t <;> simp
   refine ⟨A1, c1, A2, c2, bs, dss', ⟨?_, r1, by rw [hes, hlen, hkc]; exact r2⟩, hb, by rw [hes, hlen]; exact hr, by rw [hes]; exact k1, ?_⟩
   . rw [hes, hlen]
     cases hdt : Nd.dirty t with
     | false =>
       rw [hdt] at hn1
       have : NodeAt w' b (Nd.blk t) (Nd.gen t) false (.slice A1 0 c1) (.slice A2 (Nd.es t).length c2) := (hl.rest b hb (hl.clean hn1) hn1.lt).trans hn1
       unfold Proofs.YtemondlgcmpbbaaGreatDoor.lay
       simpa [hdt] using this
     | true =>
       rw [hdt] at hn1 hD
       have := hl.at_ b (hD b (by simp [zaf])) _ _ _ _ hn1
       unfold Proofs.YtemondlgcmpbbaaGreatDoor.lay
       simpa [hdt, zaf] using this
   . rw [k2]
     cases hdt : Nd.dirty t with
     | false => unfold Proofs.YtemondlgcmpbbaaGreatDoor.lay; cases d <;> simp [hdt, zaf]
     | true => unfold Proofs.YtemondlgcmpbbaaGreatDoor.lay; cases d <;> simp [hdt, zaf]
theorem FRep.laid0 {ok : Nat -> Prop} {D : List Nat} {X : Nat -> Nat} {g : Nat} {d : Bool} {w w' : World} (hl : Laid ok D X g d w w') {h : Nat} {t : Tr h} {b : Nat} (hf : FRep ok w h t b []) : FRep ok w' h t b [] := by
 have := hf.lay hl (fun y hy => by cases hy)
 rw [zd4 g d h t _ hf.count.symm] at this
 cases d <;> exact this
def Tree.lay (g : Nat) (d : Bool) (t : Tree) (xs : List Nat) : Tree := ⟨t.root.map fun r => ⟨r.1, Proofs.YtemondlgcmpbbaaGreatDoor.lay g d r.1 r.2 xs⟩, t.keys⟩
theorem TreeV.lay {ok : Nat -> Prop} {D : List Nat} {X : Nat -> Nat} {g : Nat} {d : Bool} {w w' : World} (hl : Laid ok D X g d w w') {t : Tree} {rp : Value} {ds : List Nat} (h : TreeV ok w t rp ds) (hD : ∀ y ∈ ds, y ∈ D) : TreeV ok w' (t.lay g d (ds.map X)) rp (if d then ds else []) := by
 rcases h with ⟨e1, e2, rfl⟩ | ⟨h, n, b, e1, e2, e3⟩
 . left
   exact ⟨by unfold Tree.lay; rw [e1]; rfl, e2, by cases d <;> rfl⟩
 . exact .inr ⟨h, _, b, by unfold Tree.lay; rw [e1]; rfl, e2, e3.lay hl hD⟩
theorem TreeV.laid0 {ok : Nat -> Prop} {D : List Nat} {X : Nat -> Nat} {g : Nat} {d : Bool} {w w' : World} (hl : Laid ok D X g d w w') {t : Tree} {rp : Value} (h : TreeV ok w t rp []) : TreeV ok w' t rp [] := by
 rcases h with ⟨e1, e2, _⟩ | ⟨h, n, b, e1, e2, e3⟩
 . exact .inl ⟨e1, e2, rfl⟩
 . exact .inr ⟨h, n, b, e1, e2, e3.laid0 hl⟩
theorem TreeV.count {ok : Nat -> Prop} {w : World} {t : Tree} {rp : Value} {ds : List Nat} (h : TreeV ok w t rp ds) : ds.length = zar t := by
 unfold zar
 rcases h with ⟨e1, _, rfl⟩ | ⟨h, n, b, e1, _, e3⟩
 . rw [e1]; rfl
 . rw [e1]; exact e3.count
theorem Tree.lay_pairs (g : Nat) (d : Bool) (t : Tree) (xs : List Nat) : (t.lay g d xs).pairs = t.pairs := by
 unfold Tree.lay Tree.pairs
 cases h : t.root with
 | none => rfl
 | some r => exact (zc8 g d r.1 r.2 xs).pairs.symm
theorem TW.lay {t : Tree} (ht : TW t) (g : Nat) (d : Bool) (xs : List Nat) : TW (t.lay g d xs) := by
 refine ⟨fun h => ht.none_ ?_, fun h n hr => ?_, by rw [Tree.lay_pairs]; exact ht.keys_⟩
 . unfold Tree.lay at h
   cases h' : t.root with
   | none => rfl
   | some r => rw [h'] at h; cases h
 . unfold Tree.lay at hr
   cases h' : t.root with
   | none => rw [h'] at hr; cases hr
   | some r =>
     rw [h'] at hr
     simp only [Option.map_some, Option.some.injEq] at hr
     cases hr
     exact (zc8 g d r.1 r.2 xs).wf (ht.some_ r.1 r.2 h')
theorem TF.laid {t : Tree} (ht : TF t) (g : Nat) (xs : List Nat) : TF (t.lay g false xs) /\ zar (t.lay g false xs) = 0 := by
 unfold Tree.lay zar
 cases h' : t.root with
 | none => exact ⟨⟨fun _ _ h => by cases h⟩, rfl⟩
 | some r =>
   have hl := zc8 g false r.1 r.2 xs
   obtain ⟨t1, t2, t3, t4⟩ := ht.some_ r.1 r.2 h'
   have h0 := zp9 g r.1 r.2 xs
   refine ⟨⟨fun h n hr => ?_⟩, h0⟩
   simp only [Option.map_some, Option.some.injEq] at hr
   cases hr
   exact ⟨hl.top t1, hl.fit t2, zkc _ _ h0, t4⟩
theorem TR.lay {t : Tree} (ht : TR t) (g : Nat) (d : Bool) (xs : List Nat) : TR (t.lay g d xs) := by
 refine ⟨ht.tw.lay g d xs, fun h n hr => ?_⟩
 unfold Tree.lay at hr
 cases h' : t.root with
 | none => rw [h'] at hr; cases hr
 | some r =>
   rw [h'] at hr
   simp only [Option.map_some, Option.some.injEq] at hr
   cases hr
   exact (zc8 g d r.1 r.2 xs).top (ht.top r.1 r.2 h')
end Go.Proofs.YtemondlgcmpbbaaGreatDoor
