/- Wo Wp: merged. -/
import Derived.Test.YtemondlgcmpbbaaGreatDoorMP15
namespace Go.Proofs.YtemondlgcmpbbaaGreatDoor
open Go.RowKit
set_option maxRecDepth 100000
def ElOk : (h : Nat) -> Tr h -> Prop
 | 0, t => ∀ e ∈ Nd.es t, lsz e <= 22
 | _ + 1, t => ∀ e ∈ Nd.es t, ksz e <= 22
def ze8 (h : Nat) (t : Tr h) : Prop := ElOk h t /\ (1 <= Tr.len h t \/ h = 0) /\ Tr.len h t <= 200
theorem zl4 {K : Type} (f : K -> Nat) (l : List K) (m : Nat) (h : ∀ e ∈ l, f e <= m) : (l.map f).sum <= m * l.length := by
 induction l with
 | nil => simp
 | cons e l ih =>
   have h1 := h e (by simp)
   have h2 := ih fun x hx => h x (by simp [hx])
   simp only [List.map_cons, List.sum_cons, List.length_cons, Nat.mul_add, Nat.mul_one]
   omega
theorem ElOk.size : ∀ {h : Nat} {t : Tr h}, ElOk h t -> Tr.size h t <= 22 * Tr.len h t
 | 0, _, ht => zl4 _ _ _ ht
 | _ + 1, _, ht => zl4 _ _ _ ht
theorem ElOk.full {h : Nat} {t : Tr h} (ht : ElOk h t) (hf : Tr.full h t = true) : 2 <= Tr.len h t := by
 have := ht.size
 unfold Tr.full at hf
 have h2 := of_decide_eq_true hf
 omega
theorem ElOk.join : ∀ {h : Nat} {a b : Tr h} {k : Str}, ElOk h a -> ElOk h b -> k.size <= 15 -> ElOk h (Tr.join h a k b)
 | 0, _, _, _, ha, hb, _ => fun e he => by
   rcases List.mem_append.1 he with he | he
   . exact ha e he
   . exact hb e he
 | _ + 1, a, b, k, ha, hb, hk => fun e he => by
   rcases List.mem_append.1 he with he | he
   . exact ha e he
   . cases hes : Nd.es b with
     | nil => rw [hes] at he; cases he
     | cons x l =>
       rw [hes] at he
       rcases List.mem_cons.1 he with rfl | he
       . unfold ksz; simp only; omega
       . exact hb e (by rw [hes]; exact List.mem_cons_of_mem _ he)
theorem zpo : ∀ (h : Nat) (a b : Tr h) (k : Str), Tr.len h (Tr.join h a k b) = Tr.len h a + Tr.len h b
 | 0, _, _, _ => List.length_append
 | _ + 1, a, b, k => by
   show (Nd.es a ++ rekey k (Nd.es b)).length = _
   rw [List.length_append, zi6]; rfl
theorem zvw {h : Nat} {pre post : List (Str × Tr h)} {k : Str} {c : Tr h} (ht : Tr.thin h c = true) (hn : 1 < pre.length + (post.length + 1)) :
   ∃ pre' k1 a k2 d post', pre ++ (k, c) :: post = pre' ++ (k1, a) :: (k2, d) :: post' /\ pre'.length = min pre.length (pre.length + (post.length + 1) - 2) /\ zax h pre k c post = pre' ++ fix h k1 (Tr.join h a k2 d) ++ post' := by
 cases post with
 | cons d post' => exact ⟨pre, k, c, d.1, d.2, post', rfl, by simp; omega, by simp [zax, ht]⟩
 | nil =>
   cases hg : pre.getLast? with
   | none =>
     rw [List.getLast?_eq_none_iff] at hg
     subst hg
     simp at hn
   | some e =>
     have hs := zcq pre e hg
     refine ⟨pre.dropLast, e.1, e.2, k, c, [], ?_, ?_, ?_⟩
     . conv => lhs; rw [hs]
       simp
     . simp only [List.length_dropLast, List.length_nil]; omega
     . simp [zax, ht, hg]
theorem RepL.head {K : Type} {R : K -> Nat -> List Nat -> Prop} {k : Str} {c : K} {post : List (Str × K)} : ∀ {bs : List Nat} {dss : List (List Nat)}, RepL R ((k, c) :: post) bs dss -> ∃ b bq d dq, bs = b :: bq /\ dss = d :: dq /\ R c b d /\ RepL R post bq dq
 | b :: bq, d :: dq, h => ⟨b, bq, d, dq, rfl, rfl, h.1, h.2⟩
 | [], _, h => h.elim
 | _ :: _, [], h => h.elim
theorem zua {dp dq : List (List Nat)} {e1 e2 t1 t2 : List Nat} {b' B : Nat} (h : (dp ++ (e1 ++ t1) :: (e2 ++ t2) :: dq).flatten.Nodup) (hB : ∀ x ∈ (dp ++ (e1 ++ t1) :: (e2 ++ t2) :: dq).flatten, x < B) (hb : B <= b') :
   (dp ++ (e1 ++ e2 ++ [b']) :: dq).flatten.Nodup /\ ∀ x ∈ (dp ++ (e1 ++ e2 ++ [b']) :: dq).flatten, x ∈ (dp ++ (e1 ++ t1) :: (e2 ++ t2) :: dq).flatten \/ x = b' := by
 have hs : (dp.flatten ++ (e1 ++ (e2 ++ dq.flatten))).Sublist (dp ++ (e1 ++ t1) :: (e2 ++ t2) :: dq).flatten := by
  simp only [List.flatten_append, List.flatten_cons, List.append_assoc]
  exact (List.Sublist.refl _).append ((List.Sublist.refl _).append ((((List.Sublist.refl e2).append (List.sublist_append_right t2 _))).trans (List.sublist_append_right t1 _)))
 have hp : (dp ++ (e1 ++ e2 ++ [b']) :: dq).flatten.Perm (b' :: (dp.flatten ++ (e1 ++ (e2 ++ dq.flatten)))) := by
  simp only [List.flatten_append, List.flatten_cons, List.append_assoc, List.cons_append, List.nil_append]
  have : (dp.flatten ++ (e1 ++ (e2 ++ b' :: dq.flatten))) = (dp.flatten ++ (e1 ++ e2)) ++ b' :: dq.flatten := by simp
  rw [this]
  refine List.perm_middle.trans ?_
  simp
 refine ⟨hp.nodup_iff.2 (List.nodup_cons.2 ⟨fun hm => ?_, hs.nodup h⟩), fun x hx => ?_⟩
 . have := hB _ (hs.subset hm); omega
 . rcases List.mem_cons.1 (hp.mem_iff.1 hx) with e | e
   . exact .inr e
   . exact .inl (hs.subset e)
theorem zka {dp dq : List (List Nat)} {e1 e2 t : List Nat} {b1 b2 B : Nat} (h : (dp ++ (e1 ++ e2 ++ t) :: dq).flatten.Nodup) (hB : ∀ x ∈ (dp ++ (e1 ++ e2 ++ t) :: dq).flatten, x < B) (h1 : B <= b1) (h2 : B <= b2) (h12 : b1 ≠ b2) :
   (dp ++ (e1 ++ [b1]) :: (e2 ++ [b2]) :: dq).flatten.Nodup /\ ∀ x ∈ (dp ++ (e1 ++ [b1]) :: (e2 ++ [b2]) :: dq).flatten, x ∈ (dp ++ (e1 ++ e2 ++ t) :: dq).flatten \/ x = b1 \/ x = b2 := by
 have hs : (dp.flatten ++ (e1 ++ (e2 ++ dq.flatten))).Sublist (dp ++ (e1 ++ e2 ++ t) :: dq).flatten := by
  simp only [List.flatten_append, List.flatten_cons, List.append_assoc]
  exact (List.Sublist.refl _).append ((List.Sublist.refl _).append ((List.Sublist.refl e2).append (List.sublist_append_right t _)))
 have hp : (dp ++ (e1 ++ [b1]) :: (e2 ++ [b2]) :: dq).flatten.Perm (b1 :: b2 :: (dp.flatten ++ (e1 ++ (e2 ++ dq.flatten)))) := by
  have e : (dp ++ (e1 ++ [b1]) :: (e2 ++ [b2]) :: dq).flatten = (dp.flatten ++ e1) ++ b1 :: (e2 ++ b2 :: dq.flatten) := by simp
  rw [e]
  refine List.perm_middle.trans (List.Perm.cons _ ?_)
  have e : (dp.flatten ++ e1) ++ (e2 ++ b2 :: dq.flatten) = (dp.flatten ++ e1 ++ e2) ++ b2 :: dq.flatten := by simp
  rw [e]
  refine List.perm_middle.trans ?_
  simp
 refine ⟨hp.nodup_iff.2 (List.nodup_cons.2 ⟨fun hm => ?_, List.nodup_cons.2 ⟨fun hm => ?_, hs.nodup h⟩⟩), fun x hx => ?_⟩
 . rcases List.mem_cons.1 hm with e | e
   . exact h12 e
   . have := hB _ (hs.subset e); omega
 . have := hB _ (hs.subset hm); omega
 . rcases List.mem_cons.1 (hp.mem_iff.1 hx) with e | e
   . exact .inr (.inl e)
   . rcases List.mem_cons.1 e with e | e
     . exact .inr (.inr e)
     . exact .inl (hs.subset e)
theorem zub {h : Nat} {pre post : List (Str × Tr h)} {k : Str} {c : Tr h} (ht : Tr.thin h c = false \/ ¬ 1 < pre.length + (post.length + 1)) : zax h pre k c post = pre ++ fix h k c ++ post := by
 rcases ht with ht | ht
 . simp [zax, ht]
 . have h1 : pre = [] := List.eq_nil_of_length_eq_zero (by omega)
   have h2 : post = [] := List.eq_nil_of_length_eq_zero (by omega)
   subst h1; subst h2
   unfold zax
   split <;> simp
theorem zl5 (base n i gv : Nat) (A : Option Addr) (c : Nat) (xs : List Value) (x1 x2 : Value) (w : World) (hown : w.ownsRow base 139 2 (.slice A n c) n xs) (hv : Blk w gv 139 #[x1, x2]) (hne : Value.ownBlock (.slice A n c) ≠ some gv) (hi : i + 1 <= n) (hn : n <= 1000) (h1 : ∀ u ∈ xs, u.oneCell' = true) (hn1 : ∀ u ∈ [x1, x2], u.oneCell' = true) (hbase : base <= w.heap.size) (hc : c <= maxLen) :
   Calls Tryz.prog 164 #[.slice A n c, .int .i64 ((i : Int) + 1), .slice (some ⟨gv, 0, none⟩) 1 1] w fun e w' => ∃ A' c', e = .returned (.slice A' (n + 1) c') /\ w'.ownsRow base 139 2 (.slice A' (n + 1) c') (n + 1) (xs.take (i * 2 + 2) ++ [x1, x2] ++ xs.drop (i * 2 + 2)) /\ w.grownBy w' (Value.ownBlock (.slice A n c)) /\
    ((Value.slice A' (n + 1) c').ownBlock = Value.ownBlock (.slice A n c) \/ ∃ g', (Value.slice A' (n + 1) c').ownBlock = some g' /\ w.heap.size <= g') :=
 (ztw base n (i + 1) gv A c xs x1 x2 w hown hv hne hi hn h1 hn1 hbase hc).mono fun _ _ ⟨_, he, ho, hg, hat⟩ => by
  obtain ⟨A', c', rfl, _, ho'⟩ := zbk ho
  rw [show (i + 1) * 2 = i * 2 + 2 by omega] at ho'
  exact ⟨A', c', he, ho', hg, hat⟩
theorem zkb {w : World} {base n c g : Nat} {T : TypeId} {xs : List Value} (h : w.ownsRow base T 2 (.slice (some ⟨g, 0, none⟩) n c) n xs) (hn : 0 < n) : ∃ cur, Blk w g T cur := by
 obtain ⟨g', cur, hA, _, hb, _⟩ := zb0 h hn
 injection hA with hA
 injection hA with hA
 subst hA
 exact ⟨cur, hb⟩
theorem zl6 (base n c J : Nat) (A : Option Addr) (xs : List Value) (w : World) (hown : w.ownsRow base 139 2 (.slice A n c) n xs) (hi : J + 2 <= n) (hn : n <= 1000) (h1 : ∀ u ∈ xs, u.oneCell' = true) :
   Calls Tryz.prog 163 #[.slice A n c, .int .i64 ((J : Int) + 1), .int .i64 ((J : Int) + 2)] w fun e w' => e = .returned (.slice A (n - 1) c) /\ w'.ownsRow base 139 2 (.slice A (n - 1) c) (n - 1) (xs.take (J * 2 + 2) ++ xs.drop (J * 2 + 2 + 2)) /\ w.grownBy w' (Value.slice A n c).ownBlock := by
 have := zm3 base n c (J + 1) A xs w hown hi hn h1
 rw [show (J + 1) * 2 = J * 2 + 2 by omega, show (((J + 1 : Nat) : Int)) = (J : Int) + 1 by omega, show (J : Int) + 1 + 1 = (J : Int) + 2 by omega] at this
 exact this
theorem zfu {w w' : World} {row : Option Nat} {B : Nat} (hg : w.grownBy w' row) (hrow : ∀ g, row = some g -> B <= g) (hB : B <= w.heap.size) : Below B w w' :=
 ⟨hg.os, hg.tape, hg.output, hg.size, fun x hx => hg.block x (by omega) (fun e => by have := hrow x e.symm; omega)⟩
theorem Opn.cells2 {pk : Nat -> Prop} {base : Nat} {w : World} {h b : Nat} {pre post : List (Str × Tr h)} {k k2 : Str} {c d : Tr h} {bp bq : List Nat} {bt b2 : Nat} {dss : List (List Nat)} {A1 : Option Addr} {g n c1 c2 : Nat}
   (o : Opn pk base w h b (pre ++ (k, c) :: (k2, d) :: post) (bp ++ bt :: b2 :: bq) dss A1 c1 (some ⟨g, 0, none⟩) n c2) (hl : bp.length = pre.length) : w.cell? ⟨g, (pre.length + 1) * 2, none⟩ = some (.string k2) /\ w.cell? ⟨g, (pre.length + 1) * 2 + 1, none⟩ = some (P b2) := by
 have e1 : pre ++ (k, c) :: (k2, d) :: post = (pre ++ [(k, c)]) ++ (k2, d) :: post := by simp
 have e2 : bp ++ bt :: b2 :: bq = (bp ++ [bt]) ++ b2 :: bq := by simp
 rw [e1, e2] at o
 have := o.cells (by simp [hl])
 simpa using this
set_option maxHeartbeats 1600000 in
theorem zpp {pk : Nat -> Prop} {base : Nat} (hpk : ∀ x, base <= x -> pk x) (h b : Nat) (pre post : List (Str × Tr h)) (k : Str) (c : Tr h) (bs : List Nat) (dss : List (List Nat)) (A1 A2 : Option Addr) (c1 n c2 : Nat) (w : World)
   (o : Opn pk base w h b (pre ++ (k, c) :: post) bs dss A1 c1 A2 n c2) (hn : n <= 400) (hkid : ∀ e ∈ pre ++ (k, c) :: post, ze8 h e.2 /\ e.1.size <= 15) (hbase : base <= w.heap.size) (hnd : dss.flatten.Nodup) :
   Calls Tryz.prog 120 #[P b, .int .i64 pre.length] w fun e w' => e = .returned (.tuple #[]) /\ ∃ bs' dss' A2' n' c2', Opn pk base w' h b (zax h pre k c post) bs' dss' A1 c1 A2' n' c2' /\ Below base w w' /\ dss'.flatten.Nodup /\ ∀ x ∈ dss'.flatten, x ∈ dss.flatten \/ w.heap.size <= x := by
 have hlen := o.len
 simp only [List.length_append, List.length_cons] at hlen
 obtain ⟨g, cur, rfl, hbg, hgb, _⟩ := zb0 o.ks (by omega)
 obtain ⟨bp, bc, bq, dp, dc, dq, hbs, hds, hl1, hl2, hk1, hk2, hk3⟩ := RepL.cut o.kids
 have hcs := (hbs ▸ o).cells hl1
 obtain ⟨i, hi⟩ : ∃ i, i = pre.length := ⟨_, rfl⟩
 rw [<- hi] at hcs
 have e1 : w.cell? ⟨b, 4, none⟩ = some (.slice (some ⟨g, 0, none⟩) n c2) := by rw [o.node.cell]; rfl
 have e2 : w.cell? ⟨g, i * 2 + 1, none⟩ = some (P bc) := hcs.2
 have q1 : (0 : Int) <= (i : Int) := by omega
 have q2 : (i : Int) < (n : Int) := by omega
 have hkc := hkid (k, c) (by simp)
 have THIN := zaa (zxe h c bc dc w hk2.rep hkc.1.2.1 (Nat.le_trans hkc.1.2.2 (by omega)) (Nat.le_trans hkc.1.1.size (by have := hkc.1.2.2; omega)))
 rw [<- hi]
 have O := zaa o
 have HI := zaa hi
 have HKID := zaa hkid
 have HND := zaa hnd
 have HL := zaa hlen
 have HBS := zaa hbs
 have HDS := zaa hds
 have HL1 := zaa hl1
 have HL2 := zaa hl2
 clear o hi hlen hl1 hl2 hbs hds hkid hnd hcs
 unfold P at e2 ⊢
 go_enter Tryz.func120, Tryz.ntmps120
 go_upto_region 1 with fail
 go_cut [24] (fun s24 wx => s24 = .bool (Tr.thin h c && decide (1 < n)) /\ Below w.heap.size w wx)
 case first =>
  go_wp2_with (first | (go_at_call 161; refine THIN.out.mono ?_; rintro e w1 ⟨rfl, hb1⟩
                        have e11 : w1.cell? ⟨b, 4, none⟩ = some (.slice (some ⟨g, 0, none⟩) n c2) := (hb1.cell (O.out.node.lt)).trans e1))
  all_goals (go_meet; refine ⟨?_, hb1⟩)
  all_goals first | (simp [*]; done) | (simp [*]; omega)
 case rest =>
  obtain ⟨rfl, hb1⟩ := hcut
  go_upto_if 24 with fail
  go_cut [1, 4] (fun s1 s4 wx => ∃ pre' k' c' post' A2' n' c2' bp' bt' bq' dp' dt' dq', s1 = .int .i64 (List.length (α := Str × Tr h) pre' : Nat) /\ s4 = P bt' /\ Opn pk base wx h b (pre' ++ (k', c') :: post') (bp' ++ bt' :: bq') (dp' ++ dt' :: dq') A1 c1 A2' n' c2' /\ bp'.length = pre'.length /\ dp'.length = pre'.length /\
   zax h pre k c post = pre' ++ fix h k' c' ++ post' /\ Below base w wx /\ (dp' ++ dt' :: dq').flatten.Nodup /\ (∀ x ∈ (dp' ++ dt' :: dq').flatten, x ∈ dss.flatten \/ w.heap.size <= x) /\ ElOk h c' /\ Tr.len h c' <= 400 /\ (1 <= Tr.len h c' \/ h = 0) /\ n' <= 400 /\ w.heap.size <= wx.heap.size)
  case first =>
   by_cases hth : Tr.thin h c = true /\ 1 < n
   . obtain ⟨ht, hn1⟩ := hth
     have hb : (Tr.thin h c && decide (1 < n)) = true := by simp [ht, hn1]
     obtain ⟨pre', k1, a, k2, d, post', hsplit, hpl, hme⟩ := zvw (k := k) (c := c) (pre := pre) (post := post) ht (by rw [<- HL.out]; exact hn1)
     have o1 := O.out.below hb1
     rw [hsplit] at o1
     obtain ⟨bp', x1, br, dp', y1, dr, hbs', hds', l1, l2, r1, r2, r3⟩ := RepL.cut o1.kids
     obtain ⟨x2, bq', y2, dq', rfl, rfl, r4, r5⟩ := r3.head
     rw [hb]
     rw [hbs'] at o1
     have d4 : wc.cell? ⟨b, 4, none⟩ = some (.slice (some ⟨g, 0, none⟩) n c2) := by rw [o1.node.cell]; rfl
     have hz1 := o1.cells l1
     have hz2 := o1.cells2 l1
     obtain ⟨J, hJ⟩ : ∃ J, J = pre'.length := ⟨_, rfl⟩
     rw [<- hJ] at hz1 hz2 hpl
     have g1 : wc.cell? ⟨g, J * 2 + 1, none⟩ = some (P x1) := hz1.2
     have g2 : wc.cell? ⟨g, (J + 1) * 2, none⟩ = some (.string k2) := hz2.1
     have g3 : wc.cell? ⟨g, (J + 1) * 2 + 1, none⟩ = some (P x2) := hz2.2
     have hJn : J + 2 <= n := by have := o1.len; simp only [List.length_append, List.length_cons] at this; omega
     have O1 := zaa o1
     have HJ := zaa hJ
     have HPL := zaa hpl
     clear hz1 hz2 hJ hbs' o1 hpl
     unfold P at g1 g3
     go_upto_region 3 with fail
     have hmin : (if (n : Int) - 2 < (i : Int) then (n : Int) - 2 else (i : Int)) = (J : Int) := by
      have e1 := HI.out
      have e2 := HL.out
      have e3 := HPL.out
      split <;> omega
     rw [hmin]
     have m0 : (0 : Int) <= (J : Int) := by omega
     have m1 : (J : Int) < (n : Int) := by omega
     have m2 : IntKind.i64.wrap ((J : Int) + 1) = (J : Int) + 1 := by rw [IntKind.wrap_i64]; omega
     have m3 : (J : Int) + 1 < (n : Int) := by omega
     have m4 : (0 : Int) <= (J : Int) + 1 := by omega
     have m5 : ((J : Int) + 1).toNat = J + 1 := by omega
     have hka := HKID.out (k1, a) (by rw [hsplit]; simp)
     have hkd := HKID.out (k2, d) (by rw [hsplit]; simp)
     have R1 := zaa r2
     have R2 := zaa r4
     have R3 := zaa r1
     have R5 := zaa r5
     have HKA := zaa hka
     have HKD := zaa hkd
     clear r2 r4 r1 r5 hka hkd
     go_region_held3 (fun w' => w'.cell? ⟨b, 4, none⟩ = some (.slice (some ⟨g, 0, none⟩) n c2) /\ w'.cell? ⟨g, J * 2 + 1, none⟩ = some (.pointer (some ⟨x1, 0, none⟩)) /\ w'.cell? ⟨g, (J + 1) * 2, none⟩ = some (.string k2) /\ w'.cell? ⟨g, (J + 1) * 2 + 1, none⟩ = some (.pointer (some ⟨x2, 0, none⟩)))
      (first | (exact ⟨d4, g1, g2, g3⟩) | (exact ⟨(hbj.cell O1.out.node.lt).trans d4, (hbj.cell hglt).trans g1, (hbj.cell hglt).trans g2, (hbj.cell hglt).trans g3⟩))
      (first
       | (go_at_call 162; go_loud (
          refine (z0y h a d k2 x1 x2 y1 y2 _ (R1.out.below (Below.refl _ _).drew (fun _ hx => hx)) (R2.out.below (Below.refl _ _).drew (fun _ hx => hx)) (Nat.le_trans HKA.out.1.2.2 (by omega)) (Nat.le_trans HKD.out.1.2.2 (by omega)) HKA.out.1.2.1 HKD.out.1.2.1).mono ?_
          rintro e wj ⟨bj, ej1, ej2, rfl, xj, hej1, hej2, yj, hbj0⟩
          have hbj : Below wc.heap.size wc wj := (Below.refl _ _).drew.trans hbj0
          have hglt : g < wc.heap.size := (zkb O1.out.ks (by omega)).elim fun _ hh => hh.lt)))
     have OJ := O1.out.below hbj
     obtain ⟨curj, hgj⟩ := zkb OJ.ks (by omega)
     have e14 : wj.cell? ⟨b, 4, none⟩ = some (.slice (some ⟨g, 0, none⟩) n c2) := (hbj.cell O1.out.node.lt).trans d4
     have e15 : wj.frozen? ⟨g, J * 2 + 1, none⟩ = false := hgj.frozen _
     have hbgn : ¬ b = g := OJ.node.ne_ hgj (by decide)
     have hjup : ∀ x, up (fp pk b (some ⟨g, 0, none⟩)) wc.drew.heap.size x -> fp pk b (some ⟨g, 0, none⟩) x := by
      rintro x (hx | hx)
      . exact hx
      . have h1 := O1.out.node.lt
        have h2 : wc.heap.size <= x := hx
        exact ⟨hpk x (by have := hb1.size; omega), by omega, fun a ha => by injection ha with ha; subst ha; show x ≠ g; omega⟩
     have o4 := OJ.setKid (xj.more hjup)
     have HXJ := zaa hej1
     have HXJ2 := zaa hej2
     have HBJ := zaa hbj
     have HYJ := zaa yj
     have HOJ := zaa OJ
     have HO4 := zaa o4
     clear xj hej1 hej2 hbj yj hbj0 OJ o4 hgj
     go_upto_region 5 with fail
     obtain ⟨W4, hW4⟩ : ∃ W4, W4 = wj.setCell ⟨g, J * 2 + 1, none⟩ (P bj) := ⟨_, rfl⟩
     have o5 := HO4.out
     rw [zee _ _ _ _ _ l1, <- HJ.out, <- hW4] at o5
     have e24 : W4.cell? ⟨b, 4, none⟩ = some (.slice (some ⟨g, 0, none⟩) n c2) := by rw [o5.node.cell]; rfl
     have m6 : IntKind.i64.wrap ((J : Int) + 2) = (J : Int) + 2 := by rw [IntKind.wrap_i64]; omega
     unfold P at hW4
     rw [<- hW4]
     have O5 := zaa o5
     have HW4 := zaa hW4
     have KONE := zaa (zcc (pre' ++ (k1, Tr.join h a k2 d) :: (k2, d) :: post') (bp' ++ bj :: x2 :: bq'))
     clear o5 hW4
     go_wp2_with (go_at_call 163; go_loud (
      refine (zl6 base n c2 J (some ⟨g, 0, none⟩) _ _ O5.out.ks hJn (Nat.le_trans hn (by omega)) KONE.out).mono ?_
      rintro e w5 ⟨rfl, ho5, hg5⟩
      have s1 := O5.out.node.grown hg5 (fun e => zag O5.out.ks O5.out.node (by decide) e.symm)
      have s2 : w5.cell? ⟨b, 4, none⟩ = some (.slice (some ⟨g, 0, none⟩) n c2) := by rw [s1.cell]; rfl
      have s3 : w5.frozen? ⟨b, 4, none⟩ = false := s1.frozen 4
      have S1 := zaa s1
      clear s1))
     go_meet
     have hbjs := HBJ.out.size
     have hb1s := hb1.size
     have hw5s := hg5.size
     have hw4s : W4.heap.size = wj.heap.size := by rw [HW4.out]; simp [World.setCell]
     have hbw : Below base w W4 := by rw [HW4.out]; exact ((hb1.mono hbase).trans (HBJ.out.mono (by omega))).setCell hbg _
     have hbw5 : Below base w (w5.setCell ⟨b, 4, none⟩ (.slice (some ⟨g, 0, none⟩) (n - 1) c2)) :=
      ((hbw.trans (zfu hg5 (fun g' e => by injection e with e; subst e; exact hbg) (by omega))).setCell O5.out.hb _)
     have hk := O5.out.kids
     rw [hds', zee _ _ _ _ J (l2.trans HJ.out.symm)] at hk
     obtain ⟨z1, z2, z3⟩ := RepL.cut2 hk l1 l2
     have hko : RepL (FRep (fp pk b (some ⟨g, 0, none⟩)) W4 h) (pre' ++ (k1, Tr.join h a k2 d) :: post') (bp' ++ bj :: bq') (dp' ++ (ej1 ++ ej2 ++ [bj]) :: dq') := RepL.join2 z1 z2 z3.2
     rw [HJ.out, zik pre' post' k1 k2 _ d bp' bq' bj x2 l1] at ho5
     have hlen5 := O5.out.len
     simp only [List.length_append, List.length_cons] at hlen5
     have hop := O5.out.row (n' := n - 1) hg5 (by simp only [List.length_append, List.length_cons]; omega) ho5 (.inl rfl) hko
     have hds0 : ∀ x ∈ dss.flatten, x < wc.heap.size := fun x hx => (O1.out.kids.ds (fun _ _ _ hk => FRep.ds hk) x hx).2
     have hnd0 := HND.out
     rw [hds', <- HXJ.out, <- HXJ2.out] at hnd0 hds0
     obtain ⟨nd1, nd2⟩ := zua hnd0 hds0 HYJ.out
     refine ⟨pre', k1, Tr.join h a k2 d, post', some ⟨g, 0, none⟩, n - 1, c2, bp', bj, bq', dp', ej1 ++ ej2 ++ [bj], dq', by rw [HJ.out], rfl, hop, l1, l2, hme, hbw5, nd1, ?_, HKA.out.1.1.join HKD.out.1.1 HKD.out.2, ?_, ?_, by omega, ?_⟩
     . intro x hx
       rcases nd2 x hx with e | e
       . left; rw [hds', <- HXJ.out, <- HXJ2.out]; exact e
       . right; have := HYJ.out; simp only [World.drew] at this; omega
     . rw [zpo]; have := HKA.out.1.2.2; have := HKD.out.1.2.2; omega
     . rw [zpo]; rcases HKA.out.1.2.1 with e | e
       . exact .inl (by omega)
       . exact .inr e
     . simp [World.setCell]; omega
   . have hb : (Tr.thin h c && decide (1 < n)) = false := by
       rw [Bool.and_eq_false_iff]
       by_cases h1 : Tr.thin h c = true
       . right; simp only [decide_eq_false_iff_not]; exact fun h2 => hth ⟨h1, h2⟩
       . left; simpa using h1
     have hst := zub (k := k) (c := c) (pre := pre) (post := post) (by
      by_cases h1 : Tr.thin h c = true
      . right; rw [<- HL.out]; exact fun h2 => hth ⟨h1, h2⟩
      . left; simpa using h1)
     rw [hb]
     go_wp2_with fail
     go_meet
     have hk := (HKID.out (k, c) (by simp)).1
     refine ⟨pre, k, c, post, some ⟨g, 0, none⟩, n, c2, bp, bc, bq, dp, dc, dq, by rw [HI.out], rfl, ?_, HL1.out, ?_, hst, hb1.mono hbase, ?_, ?_, hk.1, Nat.le_trans hk.2.2 (by omega), hk.2.1, hn, hb1.size⟩
     . rw [<- HBS.out, <- HDS.out]; exact O.out.below hb1
     . exact HL2.out
     . rw [<- HDS.out]; exact HND.out
     . rw [<- HDS.out]; exact fun x hx => .inl hx
  case rest =>
   obtain ⟨pre', k', c', post', A2', n', c2', bp', bt', bq', dp', dt', dq', rfl, rfl, o', hl', hd', hm, hbw, hnd', hds', hel, hlc, hp, hn', hsz⟩ := hcut
   have hlen' := o'.len
   simp only [List.length_append, List.length_cons] at hlen'
   obtain ⟨g', cur', rfl, hbg', hgb', _, _, _, hcm'⟩ := zb0 o'.ks (by omega)
   obtain ⟨i', hi'⟩ : ∃ i, i = pre'.length := ⟨_, rfl⟩
   have f1 : wc.cell? ⟨b, 4, none⟩ = some (.slice (some ⟨g', 0, none⟩) n' c2') := by rw [o'.node.cell]; rfl
   have hcs := o'.cells hl'
   rw [<- hi'] at hcs
   have f2 : wc.cell? ⟨g', i' * 2 + 1, none⟩ = some (P bt') := hcs.2
   have hcut' := RepL.cut o'.kids
   have p1 : (0 : Int) <= (i' : Int) := by omega
   have p2 : (i' : Int) < (n' : Int) := by omega
   have hct : FRep (fp pk b (some ⟨g', 0, none⟩)) wc h c' bt' dt' := by
    have := o'.kids.at_ pre'.length (by simp) (by simp; omega) (by simp; omega)
    rw [List.getElem_append_right (by omega), List.getElem_append_right (by omega), List.getElem_append_right (by omega)] at this
    simpa [hl', hd'] using this
   have FULL := zaa (zpd h c' bt' dt' wc hct.rep hp (Nat.le_trans hlc (by omega)) (Nat.le_trans hel.size (by omega)))
   rw [<- hi']
   by_cases hf : Tr.full h c' = true
   . rw [hf] at FULL
     have O' := zaa o'
     have HI' := zaa hi'
     have HGB := zaa hgb'
     have HCT := zaa hct
     clear o' hi' hgb' hct hcs hcut'
     go_wp2_with (first
      | (go_at_call 85; refine FULL.out.mono ?_; rintro e w1 ⟨rfl, hb2⟩)
      | (go_at_call 86; refine (zst h c' bt' dt' _ (HCT.out.below hb2 (fun _ hx => hx)) (hel.full hf) (Nat.le_trans hlc (by omega)) (Nat.le_trans hel.size (by omega))).mono ?_
         rintro e w2 ⟨b1, b2, d1, d2, rfl, x1, x2, hdd, y1, y2, y3, hb3⟩
         have hb23 : Below wc.heap.size wc w2 := hb2.trans (hb3.mono hb2.size)
         have o2 := O'.out.below hb23
         have g2 := HGB.out.below hb23 HGB.out.lt
         have f12 : w2.cell? ⟨b, 4, none⟩ = some (.slice (some ⟨g', 0, none⟩) n' c2') := (hb23.cell O'.out.node.lt).trans f1
         have f22 : w2.cell? ⟨g', i' * 2 + 1, none⟩ = some (P bt') := (hb23.cell HGB.out.lt).trans f2
         have f13 := fun o1 => zbe o1 f12
         have f23 := fun o1 => zbe o1 f22
         have f33 : ∀ o1, (w2.alloc o1).frozen? ⟨g', i' * 2 + 1, none⟩ = false := fun o1 => (g2.alloc o1).frozen _
         have O2 := zaa o2
         clear o2))
     have hz2 : wc.heap.size <= w1.heap.size := hb2.size
     have hz3 : w1.heap.size <= w2.heap.size := hb3.size
     have hup : ∀ x, up (fp pk b (some ⟨g', 0, none⟩)) w1.heap.size x -> fp pk b (some ⟨g', 0, none⟩) x := by
      rintro x (hx | hx)
      . exact hx
      . have h1 := O'.out.node.lt
        have h2 := HGB.out.lt
        exact ⟨hpk x (by omega), by omega, fun a ha => by injection ha with ha; subst ha; show x ≠ g'; omega⟩
     have o3 := (O2.out.below ((Below.refl _ _).alloc (Nat.le_refl _) (Obj.cells #[.string (Tr.split h c').2.1, P b2] 139))).setKid (x1.below ((Below.refl _ _).alloc (Nat.le_refl _) _) hup)
     rw [<- HI'.out] at o3
     have fx2 : FRep (fp pk b (some ⟨g', 0, none⟩)) (w2.alloc (Obj.cells #[.string (Tr.split h c').2.1, P b2] 139)) h (Tr.split h c').2.2 b2 (d2 ++ [b2]) := x2.below ((Below.refl _ _).alloc (Nat.le_refl _) _) hup
     have bx : Blk ((w2.alloc (Obj.cells #[.string (Tr.split h c').2.1, P b2] 139)).setCell ⟨g', i' * 2 + 1, none⟩ (P b1)) w2.heap.size 139 #[.string (Tr.split h c').2.1, P b2] := (Blk.new w2 _ _).far (by have := HGB.out.lt; show w2.heap.size ≠ g'; omega) _
     obtain ⟨w3, hw3⟩ : ∃ w3, w3 = ((w2.alloc (Obj.cells #[.string (Tr.split h c').2.1, P b2] 139)).setCell ⟨g', i' * 2 + 1, none⟩ (P b1)) := ⟨_, rfl⟩
     rw [<- hw3] at o3 bx ⊢
     have j1 : w3.cell? ⟨b, 4, none⟩ = some (.slice (some ⟨g', 0, none⟩) n' c2') := by rw [o3.node.cell]; rfl
     have j2 : w3.cell? ⟨w2.heap.size, 0, none⟩ = some (.string (Tr.split h c').2.1) := by rw [bx.cell]; rfl
     have j3 : w3.cell? ⟨w2.heap.size, 1, none⟩ = some (P b2) := by rw [bx.cell]; rfl
     have j11 := fun o1 => zbe o1 j1
     have j4 : IntKind.i64.wrap ((i' : Int) + 1) = (i' : Int) + 1 := by rw [IntKind.wrap_i64]; omega
     have O3 := zaa o3
     have BX := zaa bx
     have W3 := zaa hw3
     have FX2 := zaa fx2
     clear o3 bx hw3 fx2 f12 f22 f13 f23 f33
     have ne3 : (Value.slice (some ⟨g', 0, none⟩) n' c2').ownBlock ≠ some w3.heap.size := by
      obtain ⟨g9, cur9, hA9, _, hb9, _⟩ := zb0 O3.out.ks (by omega)
      injection hA9 with hA9
      injection hA9 with hA9
      subst hA9
      have := hb9.lt
      simp only [Value.ownBlock, ne_eq, Option.some.injEq]
      omega
     have hi1 : i' + 1 <= n' := by omega
     have HLEN := zaa hlen'
     clear hlen'
     have hbz : base <= w3.heap.size := by
      have e2 : w3.heap.size = w2.heap.size + 1 := by
       rw [W3.out]
       try simp [World.setCell]
      omega
     have hone : ∀ u ∈ ([.string (Tr.split h c').2.1, P b2] : List Value), u.oneCell' = true := by
      intro u hu
      simp only [List.mem_cons, List.not_mem_nil, or_false] at hu
      rcases hu with rfl | rfl <;> rfl
     have HONE := zaa hone
     have KONE := zaa (zcc (pre' ++ (k', (Tr.split h c').1) :: post') ((bp' ++ bt' :: bq').set i' b1))
     have hc2 : c2' <= maxLen := hcm'
     clear hone
     go_region_law (first
      | (go_simp; go_at_call 164
         refine (zl5 base n' i' w3.heap.size (some ⟨g', 0, none⟩) c2' _ (.string (Tr.split h c').2.1) (P b2) _ (zas O3.out.ks (((Below.refl _ _).alloc (Nat.le_refl _) _).drew)) (Blk.new w3 _ _).drew ne3 hi1 (Nat.le_trans hn' (by omega)) KONE.out HONE.out (Nat.le_trans hbz (by simp)) hc2).mono ?_
         rintro e w5 ⟨A5, c5, rfl, ho5, hg5, hat5⟩
         have s1 := ((O3.out.below ((Below.refl _ _).alloc (Nat.le_refl _) (Obj.cells #[.string (Tr.split h c').2.1, P b2] 139)))).node.drew.grown hg5 (fun e => zag O3.out.ks O3.out.node (by decide) e.symm)
         have s2 : w5.cell? ⟨b, 4, none⟩ = some (.slice (some ⟨g', 0, none⟩) n' c2') := by rw [s1.cell]; rfl
         have s3 : w5.frozen? ⟨b, 4, none⟩ = false := s1.frozen 4
         have S1 := zaa s1
         clear s1))
     all_goals
      go_end0
      have hal := O3.out.below (((Below.refl w3.heap.size w3).alloc (Nat.le_refl _) (Obj.cells #[.string (Tr.split h c').2.1, P b2] 139)).drew)
      have hfx : FRep (fp pk b (some ⟨g', 0, none⟩)) w3 h (Tr.split h c').2.2 b2 (d2 ++ [b2]) := by
       rw [W3.out]
       exact FX2.out.move (Agree.setCell _ ⟨g', i' * 2 + 1, none⟩ (P b1) (fun hx => hx.2.2 _ rfl rfl)) (fun _ hx => hx)
      have hfx' := hfx.below (((Below.refl w3.heap.size w3).alloc (Nat.le_refl _) (Obj.cells #[.string (Tr.split h c').2.1, P b2] 139)).drew) (fun _ hx => hx)
      have hk := hal.kids
      rw [zee _ _ _ _ i' (hl'.trans HI'.out.symm), zee _ _ _ _ i' (hd'.trans HI'.out.symm)] at hk
      obtain ⟨z1, z2, z3⟩ := RepL.cut2 hk hl' hd'
      rw [zee _ _ _ _ i' (hl'.trans HI'.out.symm), HI'.out, zij pre' post' k' _ (Tr.split h c').2.1 (Tr.split h c').2.2 bp' bq' b1 b2 hl'] at ho5
      have hlen3 := hal.len
      simp only [List.length_append, List.length_cons] at hlen3
      have hop := hal.row (es' := pre' ++ (k', (Tr.split h c').1) :: ((Tr.split h c').2.1, (Tr.split h c').2.2) :: post') hg5 (by simp only [List.length_append, List.length_cons]; omega) ho5 hat5 (RepL.join2 z1 z2 (show RepL _ (((Tr.split h c').2.1, (Tr.split h c').2.2) :: post') (b2 :: bq') ((d2 ++ [b2]) :: dq') from ⟨hfx', z3⟩))
      have hw3s : w3.heap.size = w2.heap.size + 1 := by rw [W3.out]; simp [World.setCell]
      have hbw3 : Below base w w3 := by
       rw [W3.out]
       exact (((hbw.trans (hb2.mono (by omega))).trans (hb3.mono (by omega))).alloc (by omega) _).setCell hbg' _
      have hbw5 := (((hbw3.alloc (by omega) (Obj.cells #[.string (Tr.split h c').2.1, P b2] 139)).drew.trans (zfu hg5 (fun g' e => by injection e with e; subst e; exact hbg') (by simp; omega))).setCell (p := ⟨b, 4, none⟩) O3.out.hb (.slice A5 (n' + 1) c5))
      have hds0 : ∀ x ∈ (dp' ++ dt' :: dq').flatten, x < wc.heap.size := fun x hx => (O'.out.kids.ds (fun _ _ _ hk => FRep.ds hk) x hx).2
      have hnd0 := hnd'
      rw [<- hdd] at hnd0 hds0
      obtain ⟨nd1, nd2⟩ := zka hnd0 hds0 (Nat.le_trans hz2 y1) (Nat.le_trans hz2 y2) y3
      have hfix : fix h k' c' = [(k', (Tr.split h c').1), ((Tr.split h c').2.1, (Tr.split h c').2.2)] := by simp [fix, hf]
      refine ⟨rfl, bp' ++ b1 :: b2 :: bq', dp' ++ (d1 ++ [b1]) :: (d2 ++ [b2]) :: dq', A5, n' + 1, c5, ?_, hbw5, nd1, ?_⟩
      . rw [hm, hfix, List.append_assoc]
        exact hop
      . intro x hx
        rcases nd2 x hx with e | e | e
        . exact hds' x (by rw [<- hdd]; exact e)
        . right; omega
        . right; omega
   . have hf' : Tr.full h c' = false := by simpa using hf
     rw [hf'] at FULL
     go_wp2_with (first | (go_at_call 85; refine FULL.out.mono ?_; rintro e w1 ⟨rfl, hb2⟩))
     go_end0
     refine ⟨rfl, bp' ++ bt' :: bq', dp' ++ dt' :: dq', some ⟨g', 0, none⟩, n', c2', ?_, hbw.trans (hb2.mono (Nat.le_trans hbase hsz)), hnd', hds'⟩
     rw [hm]
     have : fix h k' c' = [(k', c')] := by simp [fix, hf']
     rw [this]
     simpa using o'.below hb2
def ze9 (ok : Nat -> Prop) (w : World) (h : Nat) (t : Tr h) (ds : List Nat) : Ending -> World -> Prop := fun e w' =>
 ∃ b' ds', e = .returned (P b') /\ FRep (up ok w.heap.size) w' h t b' (ds' ++ [b']) /\ (ds' ++ [b']).Nodup /\ (∀ x ∈ ds', x ∈ ds \/ w.heap.size <= x) /\ w.heap.size <= b' /\ Below w.heap.size w w'
theorem zuc (es : List (Str × Str)) (key v : Str) : ∀ (i : Nat), i < es.length -> ((pcells es).set (i * 2) (.string key)).set (i * 2 + 1) (.string v) = pcells (es.take i ++ (key, v) :: es.drop (i + 1)) := by
 induction es with
 | nil => intro i h; simp at h
 | cons e es ih =>
   intro i h
   cases i with
   | zero => simp [pcells]
   | succ i =>
     have := ih i (by simpa using h)
     simp only [pcells, List.flatMap_cons, List.cons_append, List.nil_append, List.take_succ_cons, List.drop_succ_cons, show (i + 1) * 2 = i * 2 + 1 + 1 by omega, List.set_cons_succ] at this ⊢
     rw [this]
theorem zok (es : List (Str × Str)) (key v : Str) : ∀ (i : Nat), i <= es.length -> (pcells es).take (i * 2) ++ [.string key, .string v] ++ (pcells es).drop (i * 2) = pcells (es.take i ++ (key, v) :: es.drop i) := by
 induction es with
 | nil => intro i h; simp at h; subst h; simp [pcells]
 | cons e es ih =>
   intro i h
   cases i with
   | zero => simp [pcells]
   | succ i =>
     have := ih i (by simpa using h)
     simp only [pcells, List.flatMap_cons, List.cons_append, List.nil_append, List.take_succ_cons, List.drop_succ_cons, show (i + 1) * 2 = i * 2 + 1 + 1 by omega, List.append_assoc] at this ⊢
     rw [this]
theorem zol (es : List (Str × Str)) : ∀ (i : Nat), i < es.length -> (pcells es).take (i * 2) ++ (pcells es).drop (i * 2 + 2) = pcells (es.take i ++ es.drop (i + 1)) := by
 induction es with
 | nil => intro i h; simp at h
 | cons e es ih =>
   intro i h
   cases i with
   | zero => simp [pcells]
   | succ i =>
     have := ih i (by simpa using h)
     simp only [pcells, List.flatMap_cons, List.cons_append, List.nil_append, List.take_succ_cons, List.drop_succ_cons, show (i + 1) * 2 = i * 2 + 1 + 1 by omega, show i * 2 + 1 + 1 + 2 = i * 2 + 2 + 1 + 1 by omega] at this ⊢
     rw [this]
theorem zk4 {K : Type} {key : Str} {es : List (Str × K)} (h : there key es = true) : place key es < es.length := by
 unfold there at h
 cases hd : es.drop (place key es) with
 | nil => rw [hd] at h; cases h
 | cons e r =>
   have := congrArg List.length hd
   simp only [List.length_drop, List.length_cons] at this
   omega
theorem zl7 (base n c i : Nat) (A : Option Addr) (xs : List Value) (w : World) (hown : w.ownsRow base 68 2 (.slice A n c) n xs) (hi : i + 1 <= n) (hn : n <= 1000) (h1 : ∀ u ∈ xs, u.oneCell' = true) :
   Calls Tryz.prog 119 #[.slice A n c, .int .i64 i, .int .i64 (i + 1)] w fun e w' => e = .returned (.slice A (n - 1) c) /\ w'.ownsRow base 68 2 (.slice A (n - 1) c) (n - 1) (xs.take (i * 2) ++ xs.drop (i * 2 + 2)) /\ w.grownBy w' (Value.slice A n c).ownBlock := by
 obtain ⟨m, rfl⟩ : ∃ m, n = m + 1 := ⟨n - 1, by omega⟩
 have hl := hown.1
 obtain ⟨g, cur, rfl, hb, hg, hx, hcs, hnc, hcm⟩ := zb0 hown (by omega)
 obtain ⟨L⟩ := cur
 have hx' : L.take ((m + 1) * 2) = xs := hx
 refine (zrg g m c i L w hg (by simpa using hcs) hnc (by omega) (by omega) (by rw [hx']; exact h1) hcm).mono ?_
 rintro e w' ⟨cur', rfl, hgr, _, hb', hlen, htk⟩
 refine ⟨rfl, ⟨?_, .inr ⟨g, c, cur'.toArray, rfl, hb, hb', by omega, hcm, by simpa using hlen, ?_⟩⟩, hgr⟩
 . simp only [List.length_append, List.length_take, List.length_drop]; omega
 . rw [hx'] at htk
   have h2 : L.take (i * 2) = xs.take (i * 2) := by rw [<- hx', List.take_take, Nat.min_eq_left (by omega)]
   rw [h2] at htk
   simpa using htk
theorem zpq {w : World} {base n : Nat} {T : TypeId} {v : Value} {xs : List Value} (h : w.ownsRow base T 2 v n xs) {g : Nat} (e : v.ownBlock = some g) : base <= g := by
 rcases h.2 with ⟨rfl, _⟩ | ⟨g', cap, cur, rfl, hb, _⟩
 . cases e
 . injection e with e
   subst e
   exact hb
set_option maxHeartbeats 1600000 in
theorem zvx {ok : Nat -> Prop} (t : Tr 0) (key : Str) (b : Nat) (ds : List Nat) (w : World) (hf : FRep ok w 0 t b ds) (hr : zfk (Nd.es t)) (hn : (Nd.es t).length <= 400) (hth : there key (Nd.es t) = true) :
   Calls Tryz.prog 80 #[P b, .string key] w (ze9 ok w 0 (Tr.drop 0 t key) ds) := by
 have hlt := zk4 hth
 obtain ⟨A1, c1, A2, c2, hnd, hb, hro, hds⟩ := hf
 have HC := zaa (zgt b (Nd.blk t) (Nd.gen t) (Nd.dirty t) A1 (Nd.es t).length c1 (pcells (Nd.es t)) A2 0 c2 [] w hnd (zc2 _) (fun u hu => by cases hu) (by omega) (by omega))
 obtain ⟨es, hes⟩ : ∃ es, es = Nd.es t := ⟨_, rfl⟩
 have hdr : Tr.drop 0 t key = fresh (zbu key es) := by rw [hes]; rfl
 rw [hdr]
 rw [<- hes] at HC hr hn hlt hth
 obtain ⟨i, hi⟩ : ∃ i, i = place key es := ⟨_, rfl⟩
 rw [<- hi] at hlt
 have HR := zaa hr
 have HTH := zaa hth
 have HI := zaa hi
 clear hnd hro hds hb hr hth hi hes hdr
 have k0 : (0 : Int) <= (i : Int) := by omega
 have k1 : IntKind.i64.wrap ((i : Int) + 1) = (i : Int) + 1 := by rw [IntKind.wrap_i64]; omega
 unfold P
 go_enter Tryz.func80, Tryz.ntmps80
 go_wp2_with (first
  | (go_at_call 118; go_loud (
     refine HC.out.mono ?_; rintro e w1 ⟨b', v1, v2, rfl, hb1, ho1, ho2, hbb, hbl⟩
     obtain ⟨A1', c1', rfl, hc1, ho1⟩ := zbk ho1
     obtain ⟨A2', c2', rfl, hc2, ho2⟩ := zbk ho2
     have hrep : Rep w1 0 (fresh es : Nd Str) b' [b'] := (FRep.mk_leaf (ok := fun _ => True) rfl hb1 ho1 ho2 hbb (fun _ _ _ => trivial)).rep
     have LEAF := zaa (zdn b' 0 0 c2' true _ A2' w1 hb1)
     have PLACE := zaa (zhj (fresh es : Nd Str) key b' [b'] w1 hrep HR.out (Nat.le_trans hn (by omega)))
     have HB1 := zaa hb1
     have HO1 := zaa ho1
     have HO2 := zaa ho2
     have HBL := zaa hbl
     clear hb1 ho1 ho2 hbl hrep))
  | (go_at_call 81; go_loud (refine LEAF.out.mono ?_; rintro e w' ⟨rfl, rfl⟩))
  | (go_at_call 83; go_loud (
     refine PLACE.out.mono ?_; rintro e w2 ⟨rfl, hb2⟩
     rw [show place key (Nd.es (fresh es : Nd Str)) = i from HI.out.symm, show there key (Nd.es (fresh es : Nd Str)) = true from HTH.out]
     have hx2 := HB1.out.below hb2 HB1.out.lt
     have e3 : w2.cell? ⟨b', 3, none⟩ = some (.slice A1' es.length c1') := by rw [hx2.cell]; rfl
     have HX2 := zaa hx2
     have HB2 := zaa hb2
     clear hb2 hx2))
  | (go_at_call 119; go_loud (
     refine (zl7 w.heap.size es.length c1' i A1' (pcells es) _ (zas HO1.out HB2.out) hlt (Nat.le_trans hn (by omega)) (zc2 _)).mono ?_
     rintro e w3 ⟨rfl, ho3, hg3⟩
     have hx3 := HX2.out.grown hg3 (fun e => zag (zas HO1.out HB2.out) HX2.out (by decide) e.symm)
     have e5 : w3.cell? ⟨b', 3, none⟩ = some (.slice A1' es.length c1') := by rw [hx3.cell]; rfl
     have z3 : w3.frozen? ⟨b', 3, none⟩ = false := hx3.frozen 3
     have HX3 := zaa hx3
     clear hx3)))
 go_ret
 have hb2s := HB2.out.size
 have hb1s := HBL.out.size
 have hg3s := hg3.size
 have hke := World.ownsRow.kept (zas HO2.out HB2.out) hg3 (zgn (zas HO2.out HB2.out) (zas HO1.out HB2.out) (by decide))
 rw [zol es i hlt] at ho3
 have hld : zbu key es = es.take i ++ es.drop (i + 1) := by unfold zbu; rw [<- HI.out]
 have hbl3 : Below w.heap.size w w3 := ((HBL.out.trans (HB2.out.mono hb1s)).trans (zfu hg3 (fun g e => (zpq HO1.out e)) (by omega)))
 refine ⟨b', [], rfl, ?_, by simp, (fun x hx => by cases hx), hbb, hbl3.setCell (p := ⟨b', 3, none⟩) hbb _⟩
 rw [hld]
 exact FRep.mk_leaf (base := w.heap.size) (es := es.take i ++ es.drop (i + 1)) (by simp only [List.length_append, List.length_take, List.length_drop]; omega) (HX3.out.set_ 3 (.slice A1' (es.length - 1) c1')) (ownsRow_setCell_other ho3 (zag ho3 HX3.out (by decide)) _) (ownsRow_setCell_other hke (zag hke HX3.out (by decide)) _) hbb (fun x hx _ => .inr hx)
set_option maxHeartbeats 1600000 in
theorem zpr {ok : Nat -> Prop} (t : Tr 0) (key v : Str) (b : Nat) (ds : List Nat) (w : World) (hf : FRep ok w 0 t b ds) (hr : zfk (Nd.es t)) (hn : (Nd.es t).length <= 400) :
   Calls Tryz.prog 84 #[P b, .agg #[.string key, .string v]] w (ze9 ok w 0 (Tr.put 0 t key v) ds) := by
 have hbl0 : Below w.heap.size w (w.alloc (.cells #[.string key, .string v] 68)) := (Below.refl _ _).alloc (Nat.le_refl _) _
 have hf1 := hf.below hbl0 (fun _ h => h)
 have hbx : Blk (w.alloc (.cells #[.string key, .string v] 68)) w.heap.size 68 #[.string key, .string v] := Blk.new _ _ _
 obtain ⟨w0, hw0⟩ : ∃ w0, w0 = w.alloc (.cells #[.string key, .string v] 68) := ⟨_, rfl⟩
 rw [<- hw0] at hbl0 hf1 hbx
 obtain ⟨A1, c1, A2, c2, hnd, hb, hro, hds⟩ := hf1
 have HC := zaa (zgt b (Nd.blk t) (Nd.gen t) (Nd.dirty t) A1 (Nd.es t).length c1 (pcells (Nd.es t)) A2 0 c2 [] w0 hnd (zc2 _) (fun u hu => by cases hu) (by omega) (by omega))
 obtain ⟨es, hes⟩ : ∃ es, es = Nd.es t := ⟨_, rfl⟩
 have hdr : Tr.put 0 t key v = fresh (zbq key v es) := by rw [hes]; rfl
 rw [hdr]
 rw [<- hes] at HC hr hn
 have hle := zel key es
 have hlt : there key es = true -> place key es < es.length := zk4
 obtain ⟨i, hi⟩ : ∃ i, i = place key es := ⟨_, rfl⟩
 obtain ⟨th, hth⟩ : ∃ th, th = there key es := ⟨_, rfl⟩
 rw [<- hi] at hlt hle
 rw [<- hth] at hlt
 have HR := zaa hr
 have HTH := zaa hth
 have HI := zaa hi
 have HBX := zaa hbx
 have HB0 := zaa hbl0
 have HW0 := zaa hw0
 clear hnd hro hds hb hr hth hi hes hdr hf hbx hbl0 hw0
 have k0 : (0 : Int) <= (i : Int) := by omega
 unfold P
 go_enter Tryz.func84, Tryz.ntmps84
 go_upto_if 20 with (first
  | (go_at_call 118; go_loud (
     rw [<- HW0.out]
     refine HC.out.mono ?_; rintro e w1 ⟨b', v1, v2, rfl, hb1, ho1, ho2, hbb, hbl⟩
     obtain ⟨A1', c1', rfl, hc1, ho1⟩ := zbk ho1
     obtain ⟨A2', c2', rfl, hc2, ho2⟩ := zbk ho2
     have hrep : Rep w1 0 (fresh es : Nd Str) b' [b'] := (FRep.mk_leaf (ok := fun _ => True) rfl hb1 ho1 ho2 hbb (fun _ _ _ => trivial)).rep
     have hbx1 := HBX.out.below hbl HBX.out.lt
     have y1 : w1.cell? ⟨w.heap.size, 0, none⟩ = some (.string key) := by rw [hbx1.cell]; rfl
     have LEAF := zaa (zdn b' 0 0 c2' true _ A2' w1 hb1)
     have PLACE := zaa (zhj (fresh es : Nd Str) key b' [b'] w1 hrep HR.out (Nat.le_trans hn (by omega)))
     have HB1 := zaa hb1
     have HO1 := zaa ho1
     have HO2 := zaa ho2
     have HBL := zaa hbl
     have HBX1 := zaa hbx1
     clear hb1 ho1 ho2 hbl hrep hbx1))
  | (go_at_call 81; go_loud (refine LEAF.out.mono ?_; rintro e w' ⟨rfl, rfl⟩))
  | (go_at_call 83; go_loud (
     refine PLACE.out.mono ?_; rintro e w2 ⟨rfl, hb2⟩
     rw [show place key (Nd.es (fresh es : Nd Str)) = i from HI.out.symm, show there key (Nd.es (fresh es : Nd Str)) = th from HTH.out.symm]
     have hx2 := HB1.out.below hb2 HB1.out.lt
     have hbx2 := HBX1.out.below hb2 HBX1.out.lt
     have e3 : w2.cell? ⟨b', 3, none⟩ = some (.slice A1' es.length c1') := by rw [hx2.cell]; rfl
     have z3 : w2.frozen? ⟨b', 3, none⟩ = false := hx2.frozen 3
     have y2 : w2.cell? ⟨w.heap.size, 0, none⟩ = some (.string key) := by rw [hbx2.cell]; rfl
     have y3 : w2.cell? ⟨w.heap.size, 1, none⟩ = some (.string v) := by rw [hbx2.cell]; rfl
     have HX2 := zaa hx2
     have HB2 := zaa hb2
     clear hb2 hx2 hbx2)))
 have hb2s := HB2.out.size
 have hb1s := HBL.out.size
 have hb0s := HB0.out.size
 cases th with
 | true =>
   have hlt' := hlt rfl
   have ho1' := zas HO1.out HB2.out
   obtain ⟨g, cur, rfl, hbg, hgb, hgx, hgs, hgn, hgm⟩ := zb0 ho1' (by omega)
   have f1 : w2.frozen? ⟨g, i * 2, none⟩ = false := hgb.frozen _
   have f2 : w2.frozen? ⟨g, i * 2 + 1, none⟩ = false := hgb.frozen _
   have q1 : w2.cell? ⟨g, i * 2, none⟩ = cur[i * 2]? := by rw [hgb.cell]
   have q2 : w2.cell? ⟨g, i * 2 + 1, none⟩ = cur[i * 2 + 1]? := by rw [hgb.cell]
   rw [Array.getElem?_eq_getElem (by omega)] at q1 q2
   have k2 : (i : Int) < (es.length : Int) := by omega
   have HGB := zaa hgb
   have HO1' := zaa ho1'
   clear hgb ho1' hlt
   go_upto_region 5 with fail
   go_region
   go_wp2
   go_ret
   have hs1 := zjp (zjp HO1'.out (j := i * 2) (by omega) (.string key)) (j := i * 2 + 1) (by omega) (.string v)
   rw [zuc es key v i hlt'] at hs1
   have hke := ownsRow_setCell_other (a := ⟨g, i * 2, none⟩) (zas HO2.out HB2.out) (zag (zas HO2.out HB2.out) HGB.out (by decide)) (.string key)
   have hke2 := ownsRow_setCell_other (a := ⟨g, i * 2 + 1, none⟩) hke (zag (zas HO2.out HB2.out) HGB.out (by decide)) (.string v)
   have hne : b' ≠ g := HX2.out.ne_ HGB.out (by decide)
   have hx4 := (HX2.out.far (p := ⟨g, i * 2, none⟩) hne (.string key)).far (p := ⟨g, i * 2 + 1, none⟩) hne (.string v)
   have hbl4 : Below w.heap.size w (((w2.setCell ⟨g, i * 2, none⟩ (.string key)).setCell ⟨g, i * 2 + 1, none⟩ (.string v)).drew) :=
    ((((HB0.out.trans (HBL.out.mono hb0s)).trans (HB2.out.mono (by omega))).setCell (p := ⟨g, i * 2, none⟩) (by simp only; omega) _).setCell (p := ⟨g, i * 2 + 1, none⟩) (by simp only; omega) _).drew
   have hld : zbq key v es = es.take i ++ (key, v) :: es.drop (i + 1) := by unfold zbq; rw [<- HI.out, <- HTH.out]; rfl
   refine ⟨b', [], rfl, ?_, by simp, (fun x hx => by cases hx), by omega, hbl4⟩
   rw [hld]
   exact FRep.mk_leaf (base := w0.heap.size) (es := es.take i ++ (key, v) :: es.drop (i + 1)) (by simp only [List.length_append, List.length_take, List.length_drop, List.length_cons]; omega) hx4.drew (World.ownsRow.drew hs1) (World.ownsRow.drew hke2) hbb (fun x hx _ => .inr (by omega))
 | false =>
   have ho1' := zas HO1.out HB2.out
   have HO1' := zaa ho1'
   have KONE := zaa (zc2 es)
   have hone : ∀ u ∈ ([.string key, .string v] : List Value), u.oneCell' = true := by
    intro u hu
    simp only [List.mem_cons, List.not_mem_nil, or_false] at hu
    rcases hu with rfl | rfl <;> rfl
   have HONE := zaa hone
   have ne3 : (Value.slice A1' es.length c1').ownBlock ≠ some w2.heap.size := by
    intro e
    rcases ho1'.2 with ⟨h0, _⟩ | ⟨g', cap, cur, hv, _, hg, _⟩
    . rw [h0] at e; cases e
    . rw [hv] at e
      injection e with e
      subst e
      exact absurd (Blk.lt (t := 68) hg) (by omega)
   have j1 := fun o1 => zbe o1 e3
   clear ho1' hone hlt
   go_upto_region 6 with fail
   go_region_law (first
    | (go_simp; go_at_call 124
       refine (zri w0.heap.size es.length i w2.heap.size A1' c1' (pcells es) (.string key) (.string v) _ (zas HO1'.out (((Below.refl _ _).alloc (Nat.le_refl _) _).drew)) (Blk.new w2 _ _).drew ne3 hle (Nat.le_trans hn (by omega)) KONE.out HONE.out (by simp; omega) hc1).mono ?_
       rintro e w5 ⟨v5, rfl, ho5, hg5, hat5⟩
       obtain ⟨A5, c5, rfl, hc5, ho5⟩ := zbk ho5
       have s1 := ((HX2.out.below ((Below.refl _ _).alloc (Nat.le_refl _) (Obj.cells #[.string key, .string v] 68)) HX2.out.lt)).drew.grown hg5 (fun e => zag HO1'.out HX2.out (by decide) e.symm)
       have s2 : w5.cell? ⟨b', 3, none⟩ = some (.slice A1' es.length c1') := by rw [s1.cell]; rfl
       have s3 : w5.frozen? ⟨b', 3, none⟩ = false := s1.frozen 3
       have S1 := zaa s1
       clear s1))
   all_goals
    go_wp2
    go_ret
    rw [zok es key v i hle] at ho5
    have hal : Below w2.heap.size w2 (w2.alloc (Obj.cells #[.string key, .string v] 68)).drew := ((Below.refl w2.heap.size w2).alloc (Nat.le_refl _) _).drew
    have hke0 := zas (zas HO2.out HB2.out) hal
    have hke := World.ownsRow.kept hke0 hg5 (zgn hke0 (zas HO1'.out hal) (by decide))
    have hld : zbq key v es = es.take i ++ (key, v) :: es.drop i := by unfold zbq; rw [<- HI.out, <- HTH.out]; simp
    have hbl4 : Below w.heap.size w w5 := ((((HB0.out.trans (HBL.out.mono hb0s)).trans (HB2.out.mono (by omega))).trans (hal.mono (by omega))).trans (zfu hg5 (fun g e => by have := zpq HO1'.out e; omega) (by simp; omega)))
    have hw5s := hg5.size
    refine ⟨b', [], rfl, ?_, by simp, (fun x hx => by cases hx), by omega, hbl4.setCell (p := ⟨b', 3, none⟩) (by simp only; omega) _⟩
    rw [hld]
    exact FRep.mk_leaf (base := w0.heap.size) (es := es.take i ++ (key, v) :: es.drop i) (by simp only [List.length_append, List.length_take, List.length_drop, List.length_cons]; omega) (S1.out.set_ 3 (.slice A5 (es.length + 1) c5)) (ownsRow_setCell_other ho5 (zag ho5 S1.out (by decide)) _) (ownsRow_setCell_other hke (zag hke S1.out (by decide)) _) hbb (fun x hx _ => .inr (by omega))
end Go.Proofs.YtemondlgcmpbbaaGreatDoor
