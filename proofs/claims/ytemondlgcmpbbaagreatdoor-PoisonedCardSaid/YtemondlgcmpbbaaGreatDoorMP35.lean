/- Sq Dq Dp Dr Ds Sj: merged. -/
import Derived.Test.YtemondlgcmpbbaaGreatDoorMP33
import Derived.Laws.StructEq
import Derived.RegionTactic
import Derived.BigRegion
import Derived.Test.YtemondlgcmpbbaaGreatDoorMP19
import Derived.Test.YtemondlgcmpbbaaGreatDoorMP23
import Derived.Test.YtemondlgcmpbbaaGreatDoorMP29
import Derived.Test.YtemondlgcmpbbaaGreatDoorMP06
import Derived.Test.YtemondlgcmpbbaaGreatDoorMP28
import Derived.Test.YtemondlgcmpbbaaGreatDoorMP32
namespace Go.Proofs.YtemondlgcmpbbaaGreatDoor
open Go.RowKit
set_option maxRecDepth 100000
def eqP (a b : Str × Str) : Bool := seq a.1 b.1 && seq a.2 b.2
theorem zz6 (a b : Str × Str) : eqP a b = true ↔ a = b := by
 unfold eqP
 rw [Bool.and_eq_true]
 refine ⟨fun ⟨h1, h2⟩ => Prod.ext (zjk.1 h1) (zjk.1 h2), fun h => by subst h; exact ⟨zek _, zek _⟩⟩
theorem zjg : ∀ (l : List (Str × Str)) (k : Nat) (h : k < l.length), (zbw l)[k * 2]? = some (.string l[k].1) /\ (zbw l)[k * 2 + 1]? = some (.string l[k].2)
 | a :: l, 0, _ => ⟨rfl, rfl⟩
 | a :: l, k + 1, h => by
   have := zjg l k (by simpa using h)
   have e : zbw (a :: l) = Value.string a.1 :: Value.string a.2 :: zbw l := rfl
   rw [e, show (k + 1) * 2 = k * 2 + 1 + 1 by omega]
   exact this
theorem PRow.cells {w : World} {v : Value} {l : List (Str × Str)} (h : PRow w v l) : (v = .slice none 0 0 /\ l = []) \/ ∃ g c, v = .slice (some ⟨g, 0, none⟩) l.length c /\ l.length <= c /\ c <= maxLen /\ ∀ k (hk : k < l.length), w.cell? ⟨g, k * 2, none⟩ = some (.string l[k].1) /\ w.cell? ⟨g, k * 2 + 1, none⟩ = some (.string l[k].2) := by
 obtain ⟨base, h1, h2⟩ := h
 rcases h2 with ⟨h0, h3⟩ | ⟨g, cap, cur, hv, _, hg, a1, a2, a3, a4⟩
 . exact .inl ⟨h0, List.length_eq_zero_iff.1 h3⟩
 . refine .inr ⟨g, cap, hv, a1, a2, fun k hk => ?_⟩
   have hb : Blk w g 68 cur := hg
   have hc := zjg l k hk
   rw [<- a4] at hc
   rw [List.getElem?_take_of_lt (by omega), List.getElem?_take_of_lt (by omega)] at hc
   exact ⟨zab hb _ (by simpa using hc.1), zab hb _ (by simpa using hc.2)⟩
set_option maxHeartbeats 1000000 in
theorem zg5 (va vb : Value) (la lb : List (Str × Str)) (w : World) (ha : PRow w va la) (hb : PRow w vb lb) (h1 : la.length <= 1000) (h2 : lb.length <= 1000) :
   Calls Tryz.prog 33 #[va, vb] w fun e w' => e = .returned (.bool (decide (la = lb))) /\ Below w.heap.size w w' := by
 have hva : ∃ A c, va = .slice A la.length c := ha.form
 have hvb : ∃ A c, vb = .slice A lb.length c := hb.form
 have hca := ha.cells
 have hcb := hb.cells
 obtain ⟨A, ca, rfl⟩ := hva
 obtain ⟨B, cb, rfl⟩ := hvb
 clear ha hb
 by_cases hl : la.length = lb.length
 . obtain ⟨n, hn⟩ : ∃ n, n = la.length := ⟨_, rfl⟩
   rw [<- hl]
   rw [<- hn] at h1 ⊢
   have HN := zaa hn
   have HL := zaa hl
   have HA := zaa (fun k (hk : k < n) (hk' : k < la.length) => (show ∃ g, A = some ⟨g, 0, none⟩ /\ n <= ca /\ w.cell? ⟨g, k * 2, none⟩ = some (.string la[k].1) /\ w.cell? ⟨g, k * 2 + 1, none⟩ = some (.string la[k].2) by
    rcases hca with ⟨_, rfl⟩ | ⟨g, c, e, e1, _, e3⟩
    . simp at hn; omega
    . injection e with x y z
      subst z
      exact ⟨g, x, by omega, e3 k (by omega)⟩))
   have HB := zaa (fun k (hk : k < n) (hk' : k < lb.length) => (show ∃ g, B = some ⟨g, 0, none⟩ /\ n <= cb /\ w.cell? ⟨g, k * 2, none⟩ = some (.string lb[k].1) /\ w.cell? ⟨g, k * 2 + 1, none⟩ = some (.string lb[k].2) by
    rcases hcb with ⟨_, rfl⟩ | ⟨g, c, e, e1, _, e3⟩
    . simp at hl; subst hl; simp at hn; omega
    . injection e with x y z
      subst z
      exact ⟨g, x, by omega, e3 k (by omega)⟩))
   have hee : ((n : Int) != (n : Int)) = false := by simp
   clear hca hcb hn hl h2
   go_enter Tryz.func33, Tryz.ntmps33
   go_wp2
   go_loopw [5] (fun i wr => ∃ k : Nat, k <= n /\ la.take k = lb.take k /\ i = .int .i64 k /\ Below w.heap.size w wr) (fun i _ => n - (intOf i).toNat)
   case atStart => exact ⟨0, Nat.zero_le _, by simp, rfl, Below.refl _ _⟩
   case round =>
    obtain ⟨k, hk, ht, rfl, hbw⟩ := hrel
    have HT := zaa ht
    clear ht
    by_cases hlt : k < n
    . have m0 : (0 : Int) <= (k : Int) := by omega
      have m1 : (k : Int) < (n : Int) := by omega
      have hka : k < la.length := by have := HN.out; omega
      have hkb : k < lb.length := by have := HN.out; have := HL.out; omega
      obtain ⟨ga, rfl, hc1, a1, a2⟩ := HA.out k hlt hka
      obtain ⟨gb, rfl, hc2, b1, b2⟩ := HB.out k hlt hkb
      replace a1 := za1 a1 hbw
      replace a2 := za1 a2 hbw
      replace b1 := za1 b1 hbw
      replace b2 := za1 b2 hbw
      obtain ⟨pa, hpa⟩ : ∃ pa, pa = la[k] := ⟨_, rfl⟩
      obtain ⟨pb, hpb⟩ : ∃ pb, pb = lb[k] := ⟨_, rfl⟩
      rw [<- hpa] at a1 a2
      rw [<- hpb] at b1 b2
      have HPA := zaa hpa
      have HPB := zaa hpb
      have HBW := zaa hbw
      clear hpa hpb hbw
      have hno : ¬ pa = pb -> decide (la = lb) = false := fun h => by
       simp only [decide_eq_false_iff_not]
       intro e
       apply h
       rw [HPA.out, HPB.out]
       subst e
       rfl
      have HNO := zaa hno
      clear hno
      by_cases h1' : pa.1.toList = pb.1.toList
      . by_cases h2' : pa.2.toList = pb.2.toList
        . go_wp2
          go_region
          go_wp2
          have hpp : pa = pb := (zz6 pa pb).1 (by unfold eqP seq; simp [h1', h2'])
          go_roundw
          case rel => exact ⟨k + 1, by omega, by rw [zc3 hka, zc3 hkb, HT.out, <- HPA.out, <- HPB.out, hpp], by go_num, HBW.out.drew⟩
          case measure => simp [intOf]; omega
        . go_wp2
          go_region
          go_wp2
          go_ret
          exact ⟨by rw [HNO.out (fun e => h2' (by rw [e]))]; rfl, HBW.out.drew⟩
      . go_wp2
        go_region
        go_wp2
        go_ret
        exact ⟨by rw [HNO.out (fun e => h1' (by rw [e]))]; rfl, HBW.out.drew⟩
    . have m1 : ¬ (k : Int) < (n : Int) := by omega
      have HBW := zaa hbw
      clear hbw
      go_wp2
      go_ret
      refine ⟨?_, HBW.out⟩
      have hkn : k = n := by omega
      have e := HT.out
      rw [hkn, List.take_of_length_le (Nat.le_of_eq HN.out.symm), List.take_of_length_le (Nat.le_of_eq (HL.out.symm.trans HN.out.symm))] at e
      rw [show decide (la = lb) = true by simpa using e]
      rfl
 . have hne : ¬ (la.length : Int) = (lb.length : Int) := by omega
   have hneb : ((la.length : Int) != (lb.length : Int)) = true := by simpa using hne
   have hdec : decide (la = lb) = false := by simp; intro e; exact hl (by rw [e])
   have HD := zaa hdec
   clear hca hcb hdec hl
   go_enter Tryz.func33, Tryz.ntmps33
   go_wp2
   go_ret
   exact ⟨by rw [HD.out]; rfl, Below.refl _ _⟩
end Go.Proofs.YtemondlgcmpbbaaGreatDoor
namespace Go.Proofs.YtemondlgcmpbbaaGreatDoor
set_option maxRecDepth 100000
def cbl (h : Nat) (es : List (Str × Tr h)) : List Nat := es.flatMap fun e => cblks h e.2
theorem zeg (h : Nat) (a b : List (Str × Tr h)) : cbl h (a ++ b) = cbl h a ++ cbl h b := List.flatMap_append
theorem zcm (h : Nat) (e : Str × Tr h) (b : List (Str × Tr h)) : cbl h (e :: b) = cblks h e.2 ++ cbl h b := List.flatMap_cons
theorem zwq (h : Nat) (k : Str) (b : List (Str × Tr h)) : cbl h (rekey k b) = cbl h b := by cases b <;> rfl
theorem zdy (h : Nat) (es : List (Str × Tr h)) : cblks (h + 1) (fresh es : Nd (Tr h)) = cbl h es := by
 show cbl h es ++ [] = _
 rw [List.append_nil]
theorem zgq (h : Nat) (n : Tr (h + 1)) : (cbl h (Nd.es n)).Sublist (cblks (h + 1) n) := List.sublist_append_left _ _
theorem zqv : ∀ (h : Nat) (c : Tr h), (cblks h (Tr.split h c).1 ++ cblks h (Tr.split h c).2.2).Sublist (cblks h c)
 | 0, _ => List.nil_sublist _
 | h + 1, c => by
   show (cblks (h + 1) (fresh ((Nd.es c).take (zaz ((Nd.es c).map ksz))) : Nd (Tr h)) ++ cblks (h + 1) (fresh ((Nd.es c).drop (zaz ((Nd.es c).map ksz))) : Nd (Tr h))).Sublist _
   rw [zdy, zdy, <- zeg, List.take_append_drop]
   exact zgq h c
theorem ztb : ∀ (h : Nat) (a : Tr h) (k : Str) (b : Tr h), (cblks h (Tr.join h a k b)).Sublist (cblks h a ++ cblks h b)
 | 0, _, _, _ => List.nil_sublist _
 | h + 1, a, k, b => by
   show (cblks (h + 1) (fresh (Nd.es a ++ rekey k (Nd.es b)) : Nd (Tr h))).Sublist _
   rw [zdy, zeg, zwq]
   exact (zgq h a).append (zgq h b)
theorem zmr (h : Nat) (k : Str) (c : Tr h) : (cbl h (fix h k c)).Sublist (cblks h c) := by
 unfold fix
 split
 . rw [zcm, zcm]
   show (_ ++ (_ ++ [])).Sublist _
   rw [List.append_nil]
   exact zqv h c
 . rw [zcm]
   show (_ ++ []).Sublist _
   rw [List.append_nil]
   exact List.Sublist.refl _
theorem zz7 (h : Nat) (A : List (Str × Tr h)) (k : Str) (c : Tr h) (B : List (Str × Tr h)) : (cbl h (zax h A k c B)).Sublist (cbl h A ++ (cblks h c ++ cbl h B)) := by
 unfold zax
 split
 . cases B with
   | cons d B =>
     simp only
     rw [zeg, zeg, zcm, List.append_assoc]
     refine (List.Sublist.refl _).append ?_
     rw [<- List.append_assoc]
     exact ((zmr h k _).trans (ztb h c d.1 d.2)).append (List.Sublist.refl _)
   | nil =>
     simp only
     cases hl : A.getLast? with
     | none =>
       simp only
       refine (zmr h k c).trans ?_
       refine List.Sublist.trans ?_ (List.sublist_append_right _ _)
       exact List.sublist_append_left _ _
     | some b =>
       simp only
       have hA : A = A.dropLast ++ [b] := zcq A b hl
       rw [zeg]
       have e1 : cbl h A = cbl h A.dropLast ++ cblks h b.2 := by
        conv => lhs; rw [hA]
        rw [zeg, zcm]
        show _ ++ (_ ++ []) = _
        rw [List.append_nil]
       rw [e1, List.append_assoc]
       refine (List.Sublist.refl _).append ?_
       refine ((zmr h b.1 _).trans (ztb h b.2 k c)).trans ?_
       exact (List.Sublist.refl _).append (List.sublist_append_left _ _)
 . rw [zeg, zeg, List.append_assoc]
   exact (List.Sublist.refl _).append ((zmr h k c).append (List.Sublist.refl _))
theorem zqw (h : Nat) (key : Str) (X : List (Str × Tr h)) (f : Tr h -> Tr h) (hf : ∀ c, (cblks h (f c)).Sublist (cblks h c)) : (cbl h (zah h key X f)).Sublist (cbl h X) := by
 unfold zah
 split
 . exact List.Sublist.refl _
 . rename_i e post he
   have hX : X = X.take (below key X) ++ e :: post := by rw [<- he, List.take_append_drop]
   refine (zz7 h _ _ _ _).trans ?_
   conv => rhs; rw [hX]
   rw [zeg, zcm]
   exact (List.Sublist.refl _).append ((hf e.2).append (List.Sublist.refl _))
theorem put_cb : ∀ (h : Nat) (n : Tr h) (key v : Str), (cblks h (Tr.put h n key v)).Sublist (cblks h n)
 | 0, _, _, _ => List.nil_sublist _
 | h + 1, n, key, v => by
   show (cblks (h + 1) (fresh (zah h key (Nd.es n) fun c => Tr.put h c key v) : Nd (Tr h))).Sublist _
   rw [zdy]
   exact (zqw h key (Nd.es n) _ fun c => put_cb h c key v).trans (zgq h n)
theorem ztc : ∀ (h : Nat) (n : Tr h) (key : Str), (cblks h (Tr.drop h n key)).Sublist (cblks h n)
 | 0, _, _ => List.nil_sublist _
 | h + 1, n, key => by
   show (cblks (h + 1) (fresh (zah h key (Nd.es n) fun c => Tr.drop h c key) : Nd (Tr h))).Sublist _
   rw [zdy]
   exact (zqw h key (Nd.es n) _ fun c => ztc h c key).trans (zgq h n)
theorem ztd (h : Nat) (n : Tr h) : (cblks (za5 h n).1 (za5 h n).2).Sublist (cblks h n) := by
 by_cases hf : Tr.full h n = true
 . have e : za5 h n = ⟨h + 1, (fresh [(ByteArray.empty, (Tr.split h n).1), ((Tr.split h n).2.1, (Tr.split h n).2.2)] : Nd (Tr h))⟩ := if_pos hf
   rw [e]
   show (cblks (h + 1) (fresh [(ByteArray.empty, (Tr.split h n).1), ((Tr.split h n).2.1, (Tr.split h n).2.2)] : Nd (Tr h))).Sublist _
   rw [zdy, zcm, zcm]
   show (_ ++ (_ ++ [])).Sublist _
   rw [List.append_nil]
   exact zqv h n
 . have e : za5 h n = ⟨h, n⟩ := if_neg hf
   rw [e]
   exact List.Sublist.refl _
theorem zn4 : ∀ (h : Nat) (n : Tr h), (cblks (shrink h n).1 (shrink h n).2).Sublist (cblks h n)
 | 0, n => List.Sublist.refl _
 | h + 1, n => by
   have e : shrink (h + 1) n = (match Nd.es n with | [e] => shrink h e.2 | _ => ⟨h + 1, n⟩ : (h : Nat) × Tr h) := rfl
   have hs := zgq h n
   cases hx : Nd.es n with
   | nil => rw [hx] at e; rw [e]; exact List.Sublist.refl _
   | cons a X =>
     cases X with
     | nil =>
       rw [hx] at e hs
       rw [e]
       rw [zcm] at hs
       exact (zn4 h a.2).trans ((List.sublist_append_left _ _).trans hs)
     | cons b X => rw [hx] at e; rw [e]; exact List.Sublist.refl _
theorem Tree.put_cb (t : Tree) (k v : Str) : (t.put k v).cblks.Sublist t.cblks := by
 unfold Tree.put Tree.cblks
 cases hr : t.root with
 | none =>
   simp only
   exact (ztd 0 _).trans (List.nil_sublist _)
 | some r =>
   obtain ⟨h, n⟩ := r
   simp only
   exact (ztd h _).trans (Proofs.YtemondlgcmpbbaaGreatDoor.put_cb h n k v)
theorem Tree.delete_cb (t : Tree) (k : Str) : (t.delete k).cblks.Sublist t.cblks := by
 unfold Tree.delete
 cases hr : t.root with
 | none => simp only; exact List.Sublist.refl _
 | some r =>
   obtain ⟨h, n⟩ := r
   simp only
   split
   . unfold Tree.cblks
     rw [hr]
     simp only
     split
     . exact List.nil_sublist _
     . rename_i h' hr'
       split at hr'
       . cases hr'
       . injection hr' with hr'
         subst hr'
         exact (zn4 h _).trans (ztc h n k)
   . exact List.Sublist.refl _
end Go.Proofs.YtemondlgcmpbbaaGreatDoor
namespace Go.Proofs.YtemondlgcmpbbaaGreatDoor
open Go.RowKit
set_option maxRecDepth 100000
theorem zc5 {n : Nat} : ∀ (cache : List (Nat × List UInt8)) (bytes : List UInt8) (i : Nat), bytes.length = n * 128 -> (∀ x ∈ cache, x.1 < n /\ x.2.length = 128) -> i < n -> (∀ x ∈ cache, x.1 ≠ i) -> dread (zap bytes cache) [] i = dread bytes [] i
 | [], _, _, _, _, _, _ => rfl
 | x :: l, bytes, i, hb, hc, hi, hne => by
   have hx := hc x (by simp)
   show dread (zap (zcp bytes x) l) [] i = _
   rw [zc5 l (zcp bytes x) i (zft hb hx.1 hx.2) (fun y hy => hc y (by simp [hy])) hi (fun y hy => hne y (by simp [hy]))]
   exact zbz hb hx.1 hi hx.2 (fun e => hne x (by simp) e.symm)
theorem zho {n : Nat} : ∀ (cache : List (Nat × List UInt8)) (bytes : List UInt8) (i : Nat) (l : List UInt8), bytes.length = n * 128 -> (∀ x ∈ cache, x.1 < n /\ x.2.length = 128) -> (cache.map (·.1)).Nodup -> (i, l) ∈ cache -> dread (zap bytes cache) [] i = l
 | [], _, _, _, _, _, _, h => by cases h
 | x :: c, bytes, i, l, hb, hc, hnd, hm => by
   have hx := hc x (by simp)
   rw [List.map_cons, List.nodup_cons] at hnd
   have hb' := zft hb hx.1 hx.2
   show dread (zap (zcp bytes x) c) [] i = l
   rcases List.mem_cons.1 hm with rfl | hm
   . rw [zc5 c _ i hb' (fun y hy => hc y (by simp [hy])) hx.1 (fun y hy e => hnd.1 (List.mem_map.2 ⟨y, hy, e⟩))]
     exact zcg hb hx.1 hx.2
   . exact zho c _ i l hb' (fun y hy => hc y (by simp [hy])) hnd.2 hm
def LQ1 (rd : Nat -> List UInt8) (n G : Nat) (h : Nat) (t : Tr h) : Prop := (2 <= Tr.blk h t /\ Tr.blk h t < n) /\ Tr.gen h t <= G /\ Tr.size h t <= 116 /\ 1 <= Tr.len h t /\ Tr.dirty h t = false /\ rd (Tr.blk h t) = nby h t
theorem LQ1.toLQ {rd : Nat -> List UInt8} {n G h : Nat} {t : Tr h} (hq : LQ1 rd n G h t) : LQ rd n G h t := ⟨hq.1, hq.2.1, hq.2.2.1, hq.2.2.2.1, hq.2.2.2.2.1, .inl hq.2.2.2.2.2⟩
theorem zte {rd : Nat -> List UInt8} {n G : Nat} : ∀ {h : Nat} {t : Tr h}, NS (LQ1 rd n G) h t -> good rd h t = true
 | 0, t, hq => by
   show sealedN (rd (Nd.blk t)) = true
   have : rd (Nd.blk t) = nby 0 t := hq.2.2.2.2.2
   rw [this]; exact zmj 0 t
 | h + 1, t, hq => by
   show (sealedN (rd (Nd.blk t)) && (Nd.es t).all fun e => good rd h e.2) = true
   have : rd (Nd.blk t) = nby (h + 1) t := hq.1.2.2.2.2.2
   rw [this, zmj, Bool.true_and, List.all_eq_true]
   exact fun e he => zte (hq.2 e he)
def CQ (rd : Nat -> List UInt8) (n G : Nat) (h : Nat) (t : Tr h) : Prop := Tr.dirty h t = false -> LQ1 rd n G h t
theorem zyp (rd : Nat -> List UInt8) (n G : Nat) : zfq (CQ rd n G) := ⟨(fun _ h => Bool.noConfusion (show true = false from h)), (fun _ _ h => Bool.noConfusion (show true = false from h))⟩
theorem LQ1.next {rd rd' : Nat -> List UInt8} {n G g h : Nat} {t : Tr h} (hq : LQ1 rd n G h t) (hg : G <= g) (hr : rd' (Tr.blk h t) = rd (Tr.blk h t)) : LQ1 rd' n g h t := ⟨hq.1, Nat.le_trans hq.2.1 hg, hq.2.2.1, hq.2.2.2.1, hq.2.2.2.2.1, hr.trans hq.2.2.2.2.2⟩
theorem zn5 {h : Nat} : ∀ {X : List (Str × Tr h)}, zak h X = 0 -> ∀ e ∈ X, zae h e.2 = 0
 | [], _, e, he => by cases he
 | a :: X, h0, e, he => by
   rw [zbi] at h0
   rcases List.mem_cons.1 he with rfl | he
   . omega
   . exact zn5 (by omega) e he
theorem zqx {rd rd' : Nat -> List UInt8} {nn G g : Nat} (hg : G <= g) : ∀ (h : Nat) (n : Tr h), zae h n = 0 -> NS (CQ rd nn G) h n -> (∀ b ∈ cblks h n, rd' b = rd b) -> NS (LQ1 rd' nn g) h n
 | 0, n, hc, hq, hr => by
   have hd : Nd.dirty n = false := by
    cases hd : Nd.dirty n with
    | false => rfl
    | true => have : zae 0 n = 1 := if_pos hd; omega
   exact (hq hd).next hg (hr _ (by show Nd.blk n ∈ cblks 0 n; unfold cblks; rw [hd]; simp))
 | h + 1, n, hc, hq, hr => by
   have hc' : (if Nd.dirty n then 1 else 0) + zak h (Nd.es n) = 0 := hc
   have hd : Nd.dirty n = false := by
    cases hd : Nd.dirty n with
    | false => rfl
    | true => rw [hd] at hc'; simp at hc'
   refine ⟨(hq.1 hd).next hg (hr _ (by show Nd.blk n ∈ cblks (h + 1) n; unfold cblks; rw [hd]; simp)), fun e he => ?_⟩
   refine zqx hg h e.2 (zn5 (by omega) e he) (hq.2 e he) (fun b hb => hr b ?_)
   exact List.mem_append_left _ (List.mem_flatMap.2 ⟨e, he, hb⟩)
theorem ztf (g : Nat) (d d' : Bool) : ∀ (h : Nat) (n : Tr h) (xs : List Nat), Tr.blk h (lay g d h n xs) = Tr.blk h (lay g d' h n xs) /\ Tr.gen h (lay g d h n xs) = Tr.gen h (lay g d' h n xs)
 | 0, n, xs => by
   by_cases hd : Nd.dirty n = true
   . rw [zcy xs hd, zcy xs hd]; exact ⟨rfl, rfl⟩
   . rw [zcz xs hd, zcz xs hd]; exact ⟨rfl, rfl⟩
 | h + 1, n, xs => by
   by_cases hd : Nd.dirty n = true
   . rw [zcb xs hd, zcb xs hd]; exact ⟨rfl, rfl⟩
   . rw [zc7 xs hd, zc7 xs hd]; exact ⟨rfl, rfl⟩
theorem zn6 (g : Nat) (d d' : Bool) (h : Nat) : ∀ (X : List (Str × Tr h)) (xs : List Nat), (za3 (lay g d h) X xs).flatMap (fun e => kby e.1 (Tr.blk h e.2) (Tr.gen h e.2)) = (za3 (lay g d' h) X xs).flatMap (fun e => kby e.1 (Tr.blk h e.2) (Tr.gen h e.2)) /\ (za3 (lay g d h) X xs).length = (za3 (lay g d' h) X xs).length
 | [], _ => ⟨rfl, rfl⟩
 | (k, c) :: r, xs => by
   obtain ⟨i1, i2⟩ := zn6 g d d' h r (xs.drop (zae h c))
   obtain ⟨b1, b2⟩ := ztf g d d' h c (xs.take (zae h c))
   simp only [za3, List.flatMap_cons, List.length_cons, i1, i2, b1, b2]
   exact ⟨trivial, trivial⟩
theorem zz8 (g : Nat) (d d' : Bool) : ∀ (h : Nat) (n : Tr h) (xs : List Nat), nby h (lay g d h n xs) = nby h (lay g d' h n xs)
 | 0, n, xs => by
   by_cases hd : Nd.dirty n = true
   . rw [zcy xs hd, zcy xs hd]; rfl
   . rw [zcz xs hd, zcz xs hd]
 | h + 1, n, xs => by
   obtain ⟨i1, i2⟩ := zn6 g d d' h (Nd.es n) xs
   have key : ∀ (x gg : Nat) (dd dd' : Bool), nby (h + 1) (⟨x, gg, dd, za3 (lay g d h) (Nd.es n) xs⟩ : Nd (Tr h)) = nby (h + 1) (⟨x, gg, dd', za3 (lay g d' h) (Nd.es n) xs⟩ : Nd (Tr h)) := by
    intro x gg dd dd'
    unfold nby
    show sealN (pad 128 (nhd x gg 2 (za3 (lay g d h) (Nd.es n) xs).length ++ (za3 (lay g d h) (Nd.es n) xs).flatMap fun e => kby e.1 (Tr.blk h e.2) (Tr.gen h e.2))) = sealN (pad 128 (nhd x gg 2 (za3 (lay g d' h) (Nd.es n) xs).length ++ (za3 (lay g d' h) (Nd.es n) xs).flatMap fun e => kby e.1 (Tr.blk h e.2) (Tr.gen h e.2)))
    rw [i1, i2]
   by_cases hd : Nd.dirty n = true
   . rw [zcb xs hd, zcb xs hd]; exact key _ _ _ _
   . rw [zc7 xs hd, zc7 xs hd]; exact key _ _ _ _
theorem zlh {h : Nat} {c : Tr h} {r : List (Str × Tr h)} {k : Str} {xs : List Nat} (hl : zak h ((k, c) :: r) <= xs.length) : (xs.take (zae h c)).length = zae h c /\ zak h r <= (xs.drop (zae h c)).length := by
 rw [zbi] at hl
 simp only at hl
 exact ⟨by rw [List.length_take]; omega, by rw [List.length_drop]; omega⟩
theorem zwr {rd rd' : Nat -> List UInt8} {nn G g : Nat} (hg : G <= g) : ∀ (h : Nat) (n : Tr h) (xs : List Nat), DU h n -> xs.length = zae h n -> NS (CQ rd nn G) h n -> NS (fun h n => Tr.size h n <= 116 /\ 1 <= Tr.len h n) h n -> (∀ x ∈ xs, 2 <= x /\ x < nn) -> (∀ b ∈ cblks h n, rd' b = rd b) -> (∀ x ∈ dlist h (lay g true h n xs), rd' (Tr.blk x.1 x.2) = nby x.1 x.2) -> NS (LQ1 rd' nn g) h (lay g false h n xs)
 | 0, n, xs, hu, hl, hq, hs, hx, hc, hw => by
   by_cases hd : Nd.dirty n = true
   . have h1 : zae 0 n = 1 := if_pos hd
     rw [h1] at hl
     obtain ⟨x, rfl⟩ := List.length_eq_one_iff.1 hl
     rw [zcy _ hd] at hw ⊢
     have hx0 := hx x (by simp)
     have hs' : lsum (Nd.es n) <= 116 /\ 1 <= (Nd.es n).length := hs
     exact ⟨hx0, Nat.le_refl _, hs'.1, hs'.2, rfl, hw ⟨0, (⟨x, g, true, Nd.es n⟩ : Nd Str)⟩ (by show _ ∈ dlist 0 (⟨x, g, true, Nd.es n⟩ : Nd Str); simp [dlist])⟩
   . have hd' : Nd.dirty n = false := by simpa using hd
     rw [zcz _ hd]
     exact (hq hd').next hg (hc _ (by show Nd.blk n ∈ cblks 0 n; unfold cblks; rw [hd']; simp))
 | h + 1, n, xs, hu, hl, hq, hs, hx, hc, hw => by
   by_cases hd : Nd.dirty n = true
   . have hl' : xs.length = 1 + zak h (Nd.es n) := by
       have : zae (h + 1) n = (if Nd.dirty n then 1 else 0) + zak h (Nd.es n) := rfl
       rw [hl, this, if_pos hd]
     have hn1 := zz8 g true false (h + 1) n xs
     rw [zcb _ hd] at hw ⊢
     rw [zcb _ hd, zcb _ hd] at hn1
     have hlike := zf4 (fun c ys => zc8 g false h c ys) (Nd.es n) xs
     have hs1 : ksum (Nd.es n) <= 116 /\ 1 <= (Nd.es n).length := hs.1
     have hlast : xs.getLastD 0 ∈ xs := by
      cases xs with
      | nil => simp only [List.length_nil] at hl'; omega
      | cons a xs => rw [List.getLastD_cons]; exact List.getLastD_mem_cons ..
     refine ⟨⟨hx _ hlast, Nat.le_refl _, ?_, ?_, rfl, ?_⟩, ?_⟩
     . show ksum (za3 (lay g false h) (Nd.es n) xs) <= 116
       rw [<- LikeL.ksum hlike]; exact hs1.1
     . show 1 <= (za3 (lay g false h) (Nd.es n) xs).length
       rw [<- LikeL.len hlike]; exact hs1.2
     . rw [<- hn1]
       exact hw ⟨h + 1, (⟨xs.getLastD 0, g, true, za3 (lay g true h) (Nd.es n) xs⟩ : Nd (Tr h))⟩ (List.mem_append_right _ (by show _ ∈ (if true = true then [_] else []); simp))
     . have hdl : ∀ x ∈ (za3 (lay g true h) (Nd.es n) xs).flatMap (fun e => dlist h e.2), rd' (Tr.blk x.1 x.2) = nby x.1 x.2 := fun x hx => hw x (List.mem_append_left _ hx)
       have hcb : ∀ b ∈ cbl h (Nd.es n), rd' b = rd b := fun b hb => hc b (List.mem_append_left _ hb)
       have main : ∀ (X : List (Str × Tr h)) (ys : List Nat), zak h X <= ys.length -> (∀ e ∈ X, DU h e.2) -> (∀ e ∈ X, NS (CQ rd nn G) h e.2) -> (∀ e ∈ X, NS (fun h n => Tr.size h n <= 116 /\ 1 <= Tr.len h n) h e.2) -> (∀ x ∈ ys, 2 <= x /\ x < nn) -> (∀ b ∈ cbl h X, rd' b = rd b) -> (∀ x ∈ (za3 (lay g true h) X ys).flatMap (fun e => dlist h e.2), rd' (Tr.blk x.1 x.2) = nby x.1 x.2) -> ∀ e ∈ za3 (lay g false h) X ys, NS (LQ1 rd' nn g) h e.2 := by
        intro X
        induction X with
        | nil => intro _ _ _ _ _ _ _ _ e he; cases he
        | cons a r ih =>
          obtain ⟨k, c⟩ := a
          intro ys k1 k2 k3 k4 k5 k6 k7 e he
          obtain ⟨t1, t2⟩ := zlh k1
          simp only [za3, List.flatMap_cons] at k7 he
          rw [zcm] at k6
          rcases List.mem_cons.1 he with rfl | he
          . exact zwr hg h c _ (k2 (k, c) (List.mem_cons_self ..)) t1 (k3 (k, c) (List.mem_cons_self ..)) (k4 (k, c) (List.mem_cons_self ..)) (fun x hx => k5 x (List.mem_of_mem_take hx)) (fun b hb => k6 b (List.mem_append_left _ hb)) (fun x hx => k7 x (List.mem_append_left _ hx))
          . exact ih _ t2 (fun e he => k2 e (by simp [he])) (fun e he => k3 e (by simp [he])) (fun e he => k4 e (by simp [he])) (fun x hx => k5 x (List.mem_of_mem_drop hx)) (fun b hb => k6 b (List.mem_append_right _ hb)) (fun x hx => k7 x (List.mem_append_right _ hx)) e he
       exact main (Nd.es n) xs (by omega) hu.2 hq.2 hs.2 hx hcb hdl
   . have hd' : Nd.dirty n = false := by simpa using hd
     have hc0 : zae (h + 1) n = 0 := by
      show (if Nd.dirty n then 1 else 0) + zak h (Nd.es n) = 0
      rw [if_neg hd, hu.1 hd']
     rw [zd4 g false (h + 1) n xs hc0]
     exact zqx hg (h + 1) n hc0 hq hc
theorem zyb {a b c : List Nat} : ((a ++ b) ++ c).Perm ((a ++ c) ++ b) := by
 rw [List.append_assoc, List.append_assoc]
 exact List.Perm.append_left a List.perm_append_comm
theorem zjh {h : Nat} {g : Nat} {d : Bool} (ih : ∀ (c : Tr h) (ys : List Nat), ys.length = zae h c -> (blks h (lay g d h c ys)).Perm (cblks h c ++ ys)) : ∀ (X : List (Str × Tr h)) (xs : List Nat), zak h X <= xs.length -> ((za3 (lay g d h) X xs).flatMap fun e => blks h e.2).Perm (cbl h X ++ xs.take (zak h X))
 | [], xs, _ => by
   show ([] : List Nat).Perm ([] ++ xs.take 0)
   rw [List.take_zero]; exact List.Perm.refl _
 | (k, c) :: r, xs, hl => by
   obtain ⟨t1, t2⟩ := zlh hl
   simp only [za3, List.flatMap_cons]
   rw [zcm, zbi]
   have p1 := ih c _ t1
   have p2 := zjh ih r _ t2
   have e : xs.take (zae h c + zak h r) = xs.take (zae h c) ++ (xs.drop (zae h c)).take (zak h r) := List.take_add
   rw [e]
   refine (p1.append p2).trans ?_
   simp only [List.append_assoc]
   refine List.Perm.append_left _ ?_
   rw [<- List.append_assoc, <- List.append_assoc]
   exact List.Perm.append_right _ List.perm_append_comm
theorem zn7 {xs : List Nat} {k : Nat} (h : xs.length = 1 + k) : xs = xs.take k ++ [xs.getLastD 0] := by
 obtain ⟨x, hx⟩ := List.length_eq_one_iff.1 (show (xs.drop k).length = 1 by rw [List.length_drop]; omega)
 have e : xs.take k ++ [x] = xs := by rw [<- hx]; exact List.take_append_drop k xs
 have h2 : xs.getLastD 0 = x := by
  have := congrArg (fun l : List Nat => l.getLastD 0) e
  simp only [List.getLastD_concat] at this
  exact this.symm
 rw [h2]
 exact e.symm
theorem zn8 : ∀ (h : Nat) (n : Tr h), (dlist h n).length = zae h n
 | 0, n => by
   unfold dlist zae
   split <;> rfl
 | h + 1, n => by
   have main : ∀ X : List (Str × Tr h), (X.flatMap fun e => dlist h e.2).length = zak h X := by
    intro X
    induction X with
    | nil => rfl
    | cons a r ih => rw [List.flatMap_cons, List.length_append, ih, zbi, zn8 h a.2]
   show (((Nd.es n).flatMap fun e => dlist h e.2) ++ if Nd.dirty n then [(⟨h + 1, n⟩ : (h : Nat) × Tr h)] else []).length = (if Nd.dirty n then 1 else 0) + zak h (Nd.es n)
   rw [List.length_append, main]
   split <;> simp <;> omega
theorem zli (g : Nat) (d : Bool) : ∀ (h : Nat) (n : Tr h) (xs : List Nat), xs.length = zae h n -> (blks h (lay g d h n xs)).Perm (cblks h n ++ xs)
 | 0, n, xs, hl => by
   by_cases hd : Nd.dirty n = true
   . have h1 : zae 0 n = 1 := if_pos hd
     rw [h1] at hl
     obtain ⟨x, rfl⟩ := List.length_eq_one_iff.1 hl
     rw [zcy _ hd]
     have : cblks 0 n = [] := by unfold cblks; rw [hd]; rfl
     rw [this]
     exact List.Perm.refl _
   . have h1 : zae 0 n = 0 := if_neg hd
     rw [h1] at hl
     rw [zcz _ hd, List.length_eq_zero_iff.1 hl, List.append_nil]
     have : cblks 0 n = [Nd.blk n] := by unfold cblks; rw [if_neg hd]
     rw [this]
     exact List.Perm.refl _
 | h + 1, n, xs, hl => by
   have hc : zae (h + 1) n = (if Nd.dirty n then 1 else 0) + zak h (Nd.es n) := rfl
   by_cases hd : Nd.dirty n = true
   . rw [hc, if_pos hd] at hl
     rw [zcb _ hd]
     have hcb : cblks (h + 1) n = cbl h (Nd.es n) := by
      show cbl h (Nd.es n) ++ (if Nd.dirty n then [] else [Nd.blk n]) = _
      rw [if_pos hd, List.append_nil]
     rw [hcb]
     show (((za3 (lay g d h) (Nd.es n) xs).flatMap fun e => blks h e.2) ++ [xs.getLastD 0]).Perm _
     conv => arg 2; rw [zn7 hl]
     rw [<- List.append_assoc]
     exact List.Perm.append_right _ (zjh (fun c ys => zli g d h c ys) (Nd.es n) xs (by omega))
   . rw [hc, if_neg hd, Nat.zero_add] at hl
     rw [zc7 _ hd]
     have hcb : cblks (h + 1) n = cbl h (Nd.es n) ++ [Nd.blk n] := by
      show cbl h (Nd.es n) ++ (if Nd.dirty n then [] else [Nd.blk n]) = _
      rw [if_neg hd]
     rw [hcb]
     show (((za3 (lay g d h) (Nd.es n) xs).flatMap fun e => blks h e.2) ++ [Nd.blk n]).Perm _
     have p := zjh (fun c ys => zli g d h c ys) (Nd.es n) xs (by omega)
     rw [<- hl, List.take_length] at p
     exact (p.append_right _).trans zyb
theorem zji (g : Nat) : ∀ (h : Nat) (n : Tr h) (xs : List Nat), DU h n -> xs.length = zae h n -> (dlist h (lay g true h n xs)).map (fun x => Tr.blk x.1 x.2) = xs
 | 0, n, xs, _, hl => by
   by_cases hd : Nd.dirty n = true
   . have h1 : zae 0 n = 1 := if_pos hd
     rw [h1] at hl
     obtain ⟨x, rfl⟩ := List.length_eq_one_iff.1 hl
     rw [zcy _ hd]
     rfl
   . have h1 : zae 0 n = 0 := if_neg hd
     rw [h1] at hl
     rw [zcz _ hd, List.length_eq_zero_iff.1 hl]
     unfold dlist
     rw [if_neg hd]; rfl
 | h + 1, n, xs, hu, hl => by
   have hc : zae (h + 1) n = (if Nd.dirty n then 1 else 0) + zak h (Nd.es n) := rfl
   have main : ∀ (X : List (Str × Tr h)) (ys : List Nat), zak h X <= ys.length -> (∀ e ∈ X, DU h e.2) -> ((za3 (lay g true h) X ys).flatMap fun e => dlist h e.2).map (fun x => Tr.blk x.1 x.2) = ys.take (zak h X) := by
    intro X
    induction X with
    | nil => intro ys _ _; show [] = ys.take 0; rw [List.take_zero]
    | cons a r ih =>
      obtain ⟨k, c⟩ := a
      intro ys k1 k2
      obtain ⟨t1, t2⟩ := zlh k1
      simp only [za3, List.flatMap_cons, List.map_append]
      rw [zji g h c _ (k2 (k, c) (List.mem_cons_self ..)) t1, ih _ t2 (fun e he => k2 e (List.mem_cons_of_mem _ he)), zbi]
      exact List.take_add.symm
   by_cases hd : Nd.dirty n = true
   . rw [hc, if_pos hd] at hl
     rw [zcb _ hd]
     show (((za3 (lay g true h) (Nd.es n) xs).flatMap fun e : Str × Tr h => dlist h e.2) ++ [(⟨h + 1, (⟨xs.getLastD 0, g, true, za3 (lay g true h) (Nd.es n) xs⟩ : Nd (Tr h))⟩ : (h : Nat) × Tr h)]).map (fun x : (h : Nat) × Tr h => Tr.blk x.1 x.2) = xs
     rw [List.map_append, main _ _ (by omega) hu.2]
     exact (zn7 hl).symm
   . have hd' : Nd.dirty n = false := by simpa using hd
     rw [hc, if_neg hd, hu.1 hd'] at hl
     have hx : xs = [] := List.length_eq_zero_iff.1 (by omega)
     have hc0 : zae (h + 1) n = 0 := by rw [hc, if_neg hd, hu.1 hd']
     rw [zd4 g true (h + 1) n xs hc0, hx]
     have : dlist (h + 1) n = [] := by
      have hl2 := zn8 (h + 1) n
      rw [hc0] at hl2
      exact List.length_eq_zero_iff.1 hl2
     rw [this]; rfl
/-! ### heads -/
theorem zux (gen blk rgen : Nat) (hg : gen < 4294967296) (hb : blk < 4294967296) (hr : rgen < 4294967296) : (zam gen blk rgen).length = 32 /\ ∀ r, pGen (zam gen blk rgen ++ r) = gen /\ pBlk (zam gen blk rgen ++ r) = blk /\ pRgen (zam gen blk rgen ++ r) = rgen /\ zdz (zam gen blk rgen ++ r) = 827479123 /\ sealedN ((zam gen blk rgen ++ r).take 32) = true := by
 have hl : (zam gen blk rgen).length = 32 := rfl
 refine ⟨hl, fun r => ?_⟩
 have ht : (zam gen blk rgen ++ r).take 32 = zam gen blk rgen := by rw [<- hl, List.take_left]
 unfold pGen pBlk pRgen zdz
 rw [ht]
 have h0 : zam gen blk rgen = le4 (crcN ((zio gen blk rgen).drop 4)) ++ (le4 827479123 ++ (le4 gen ++ (le4 blk ++ (le4 rgen ++ List.replicate 12 0)))) := rfl
 refine ⟨?_, ?_, ?_, ?_, ?_⟩
 . rw [h0]; exact zcw gen hg _
 . rw [h0]; exact zcw blk hb _
 . rw [h0]; exact zcw rgen hr _
 . rw [h0]; exact zcw 827479123 (by omega) _
 . unfold zam; exact ze0 _
theorem zyc (s gen blk rgen : Nat) (h0 : 0 < gen) (h1 : gen < 1073741824) (hb : blk < 4294967296) (hr : rgen < 4294967296) (hz : 0 < blk \/ rgen = 0) : pOk (pad 128 (zam gen blk rgen)) = true /\ headOf s (pad 128 (zam gen blk rgen)) = ⟨s, gen, blk, rgen⟩ := by
 obtain ⟨_, hx⟩ := zux gen blk rgen (by omega) hb hr
 obtain ⟨g1, g2, g3, g4, g5⟩ := hx (List.replicate (128 - (zam gen blk rgen).length) 0)
 have hp : pad 128 (zam gen blk rgen) = zam gen blk rgen ++ List.replicate (128 - (zam gen blk rgen).length) 0 := rfl
 rw [<- hp] at g1 g2 g3 g4 g5
 refine ⟨?_, ?_⟩
 . unfold pOk
   rw [g5, g4, g1, g2, g3]
   simp [h0, h1]
   rcases hz with h | h
   . exact .inl h
   . exact .inr h
 . unfold headOf
   rw [g1, g2, g3]
theorem zhp (c : Nat -> List UInt8) : ∀ k, ∀ h ∈ headUp c k, h.slot < k /\ pOk (c h.slot) = true /\ h = headOf h.slot (c h.slot)
 | 0, h, hh => by cases hh
 | k + 1, h, hh => by
   rcases List.mem_append.1 hh with hh | hh
   . obtain ⟨h1, h2, h3⟩ := zhp c k h hh
     exact ⟨by omega, h2, h3⟩
   . split at hh
     . rename_i hp
       rw [List.mem_singleton.1 hh]
       exact ⟨Nat.lt_succ_self _, hp, rfl⟩
     . cases hh
theorem zn9 {c c' : Nat -> List UInt8} {hd : Hd} {tl : List Hd} (hh : zba c = hd :: tl) {gen blk rgen : Nat} (hs : c' hd.slot = c hd.slot) (hn : c' (1 - hd.slot) = pad 128 (zam gen blk rgen)) (hgen : hd.gen < gen) (h1 : gen < 1073741824) (hb : blk < 4294967296) (hr : rgen < 4294967296) (hz : 0 < blk \/ rgen = 0) :
   zba c' = [⟨1 - hd.slot, gen, blk, rgen⟩, hd] := by
 obtain ⟨k1, k2, k3⟩ := zhp c 2 hd (zb6 c hd (by rw [hh]; exact List.mem_cons_self ..))
 obtain ⟨p1, p2⟩ := zyc (1 - hd.slot) gen blk rgen (by omega) h1 hb hr hz
 unfold zba
 rw [zmx]
 have hsl : hd.slot = 0 \/ hd.slot = 1 := by omega
 rcases hsl with e | e
 . have e1 : c' 0 = c 0 := by rw [e] at hs; exact hs
   have e2 : c' 1 = pad 128 (zam gen blk rgen) := by rw [e] at hn; exact hn
   rw [e] at k2 k3 p2 ⊢
   rw [e1, e2, if_pos k2, if_pos p1, <- k3]
   have p2' : headOf 1 (pad 128 (zam gen blk rgen)) = ⟨1, gen, blk, rgen⟩ := p2
   rw [p2']
   show newest [hd, ⟨1, gen, blk, rgen⟩] = _
   exact if_pos hgen
 . have e1 : c' 1 = c 1 := by rw [e] at hs; exact hs
   have e2 : c' 0 = pad 128 (zam gen blk rgen) := by rw [e] at hn; exact hn
   rw [e] at k2 k3 p2 ⊢
   rw [e1, e2, if_pos k2, if_pos p1, <- k3]
   have p2' : headOf 0 (pad 128 (zam gen blk rgen)) = ⟨0, gen, blk, rgen⟩ := p2
   rw [p2']
   show newest [⟨0, gen, blk, rgen⟩, hd] = _
   exact if_neg (by show ¬ gen < hd.gen; omega)
theorem zoa : ∀ (h : Nat) (n : Tr h), (cblks h n).Sublist (blks h n)
 | 0, n => by
   unfold cblks blks
   split
   . exact List.nil_sublist _
   . exact List.Sublist.refl _
 | h + 1, n => by
   have main : ∀ X : List (Str × Tr h), (cbl h X).Sublist (X.flatMap fun e => blks h e.2) := by
    intro X
    induction X with
    | nil => exact List.Sublist.refl _
    | cons a r ih => rw [zcm, List.flatMap_cons]; exact (zoa h a.2).append ih
   show (cbl h (Nd.es n) ++ if Nd.dirty n then [] else [Nd.blk n]).Sublist (((Nd.es n).flatMap fun e => blks h e.2) ++ [Nd.blk n])
   refine (main _).append ?_
   split
   . exact List.nil_sublist _
   . exact List.Sublist.refl _
theorem zob {rd : Nat -> List UInt8} {n G : Nat} : ∀ {h : Nat} {t : Tr h}, NS (CQ rd n G) h t -> ∀ b ∈ cblks h t, 2 <= b /\ b < n
 | 0, t, hq, b, hb => by
   cases hd : Nd.dirty t with
   | true =>
     have : cblks 0 t = [] := by unfold cblks; rw [hd]; rfl
     rw [this] at hb; cases hb
   | false =>
     have : cblks 0 t = [Nd.blk t] := by unfold cblks; rw [hd]; rfl
     rw [this, List.mem_singleton] at hb
     rw [hb]; exact (hq hd).1
 | h + 1, t, hq, b, hb => by
   rcases List.mem_append.1 (show b ∈ cbl h (Nd.es t) ++ (if Nd.dirty t then [] else [Nd.blk t]) from hb) with hb | hb
   . obtain ⟨e, he, hb⟩ := List.mem_flatMap.1 hb
     exact zob (hq.2 e he) b hb
   . cases hd : Nd.dirty t with
     | true => rw [hd] at hb; cases hb
     | false =>
       rw [hd] at hb
       rw [List.mem_singleton.1 hb]; exact (hq.1 hd).1
structure DInv (rd : Nat -> List UInt8) (n : Nat) (hd : Hd) (T : Tree) : Prop where
 heads : ∃ tl, zba rd = hd :: tl
 root : (T.root = none /\ hd.blk = 0) \/ ∃ h t, T.root = some ⟨h, t⟩ /\ Tr.blk h t = hd.blk /\ Tr.gen h t = hd.rgen /\ 0 < hd.blk
 on : TN (LQ1 rd n hd.gen) T
 nd : T.blks.Nodup
structure CInv (rd : Nat -> List UInt8) (n G : Nat) (T : Tree) : Prop where
 on : TN (CQ rd n G) T
 nd : T.cblks.Nodup
theorem DInv.toC {rd : Nat -> List UInt8} {n : Nat} {hd : Hd} {T : Tree} (h : DInv rd n hd T) : CInv rd n hd.gen T := by
 refine ⟨fun k t hr => (h.on k t hr).mono (R := CQ rd n hd.gen) fun _ _ hq _ => hq, h.nd.sublist ?_⟩
 unfold Tree.cblks Tree.blks
 cases hr : T.root with
 | none => exact List.Sublist.refl _
 | some r => exact zoa r.1 r.2
theorem CInv.put {rd : Nat -> List UInt8} {n G : Nat} {T : Tree} (h : CInv rd n G T) (k v : Str) : CInv rd n G (T.put k v) := ⟨h.on.put (zyp rd n G) k v, h.nd.sublist (T.put_cb k v)⟩
theorem CInv.delete {rd : Nat -> List UInt8} {n G : Nat} {T : Tree} (h : CInv rd n G T) (k : Str) : CInv rd n G (T.delete k) := ⟨h.on.delete (zyp rd n G) k, h.nd.sublist (T.delete_cb k)⟩
theorem zhx {bytes : List UInt8} {n c : Nat} {hd : Hd} {T1 : Tree} {xs : List Nat} (hb : bytes.length = c * 128) (hnc : n <= c) (hn : 8 <= n /\ n <= 400) (hh : ∃ tl, zba (dread bytes []) = hd :: tl) (hgen : hd.gen + 1 < 1073741824) (hu : TF T1) (hc : CInv (dread bytes []) n hd.gen T1) (hsz : TN (fun h n => Tr.size h n <= 116 /\ 1 <= Tr.len h n) T1)
   (hxs : xs.Nodup) (hxb : ∀ x ∈ xs, (2 <= x /\ x < n) /\ x ∉ T1.cblks) (hxl : xs.length = zar T1) {g : Nat} (hg : g = hd.gen + 1) {TT : Tree} (hT : TT = T1.lay g true xs) :
   DInv (dread (zcp (zap bytes (zao TT)) (1 - hd.slot, pad 128 (zam g TT.rblk TT.rgen))) []) n ⟨1 - hd.slot, g, TT.rblk, TT.rgen⟩ (T1.lay g false xs) := by
 obtain ⟨tl, hh⟩ := hh
 obtain ⟨hsl, _, _⟩ := zhp _ 2 hd (zb6 _ hd (by rw [hh]; exact List.mem_cons_self ..))
 have hpl : (pad 128 (zam g TT.rblk TT.rgen)).length = 128 := zb5 _ _ (by show (32 : Nat) <= 128; omega)
 cases hr : T1.root with
 | none =>
   have hTr : TT.root = none := by rw [hT]; unfold Tree.lay; rw [hr]; rfl
   have hw : zao TT = [] := by unfold zao Tree.dlist; rw [hTr]; rfl
   have hrb : TT.rblk = 0 := by unfold Tree.rblk; rw [hTr]
   have hrg : TT.rgen = 0 := by unfold Tree.rgen; rw [hTr]
   have hT0 : (T1.lay g false xs).root = none := by unfold Tree.lay; rw [hr]; rfl
   rw [hw, hrb, hrg]
   rw [hrb, hrg] at hpl
   refine ⟨⟨[hd], ?_⟩, .inl ⟨hT0, rfl⟩, (fun h t ht => by rw [hT0] at ht; cases ht), (by unfold Tree.blks; rw [hT0]; exact List.nodup_nil)⟩
   refine zn9 hh ?_ ?_ (by omega) (by omega) (by omega) (by omega) (.inr rfl)
   . exact zbz hb (by omega) (by omega) hpl (by omega)
   . exact zcg hb (by omega) hpl
 | some r =>
   obtain ⟨h, t⟩ := r
   have hTr : TT.root = some ⟨h, lay g true h t xs⟩ := by rw [hT]; unfold Tree.lay; rw [hr]; rfl
   have hT0 : (T1.lay g false xs).root = some ⟨h, lay g false h t xs⟩ := by unfold Tree.lay; rw [hr]; rfl
   have hw : zao TT = (dlist h (lay g true h t xs)).map fun x => (Tr.blk x.1 x.2, nby x.1 x.2) := by unfold zao Tree.dlist; rw [hTr]
   have hcb : T1.cblks = cblks h t := by unfold Tree.cblks; rw [hr]
   have htd : zar T1 = zae h t := by unfold zar; rw [hr]
   rw [hcb] at hxb
   rw [htd] at hxl
   obtain ⟨_, hfit, hdu, _⟩ := hu.some_ h t hr
   have hq := hc.on h t hr
   have hs := hsz h t hr
   have hdb := zji g h t xs hdu hxl
   have hfst : (zao TT).map (·.1) = xs := by
    rw [hw, List.map_map]
    exact hdb
   have hlayfit : Fit h (lay g true h t xs) := (zc8 g true h t xs).fit hfit
   have hwok : ∀ x ∈ zao TT, x.1 < n /\ x.2.length = 128 := by
    intro x hx
    refine ⟨(hxb x.1 (by rw [<- hfst]; exact List.mem_map.2 ⟨x, hx, rfl⟩)).1.2, ?_⟩
    rw [hw] at hx
    obtain ⟨y, hy, rfl⟩ := List.mem_map.1 hx
    have := (zid h _ (zjb h _ hlayfit) y hy).here
    exact zm8 this
   have hwokc : ∀ x ∈ zao TT, x.1 < c /\ x.2.length = 128 := fun x hx => ⟨Nat.lt_of_lt_of_le (hwok x hx).1 hnc, (hwok x hx).2⟩
   have hb2 : (zap bytes (zao TT)).length = c * 128 := zdr (zao TT) bytes hb hwokc
   obtain ⟨rd', hrd'⟩ : ∃ rd', rd' = dread (zcp (zap bytes (zao TT)) (1 - hd.slot, pad 128 (zam g TT.rblk TT.rgen))) [] := ⟨_, rfl⟩
   have hoth : ∀ i, i < n -> i ≠ 1 - hd.slot -> rd' i = dread (zap bytes (zao TT)) [] i := fun i hi hne => by rw [hrd']; exact zbz hb2 (by omega) (Nat.lt_of_lt_of_le hi hnc) hpl hne
   have hold : ∀ i, i < n -> i ≠ 1 - hd.slot -> i ∉ xs -> rd' i = dread bytes [] i := fun i hi hne hx => by
    rw [hoth i hi hne]
    exact zc5 (zao TT) bytes i hb hwokc (Nat.lt_of_lt_of_le hi hnc) (fun x hx' e => hx (by rw [<- hfst]; exact List.mem_map.2 ⟨x, hx', e⟩))
   have hon := zwr (rd' := rd') (show hd.gen <= g by omega) h t xs hdu hxl hq hs (fun x hx => (hxb x hx).1) (fun b hb' => by
    obtain ⟨b1, b2⟩ := zob hq b hb'
    exact hold b b2 (by omega) (fun hx => (hxb b hx).2 hb')) (fun x hx => by
    have hm : (Tr.blk x.1 x.2, nby x.1 x.2) ∈ zao TT := by rw [hw]; exact List.mem_map.2 ⟨x, hx, rfl⟩
    have hbx : Tr.blk x.1 x.2 ∈ xs := by rw [<- hfst]; exact List.mem_map.2 ⟨_, hm, rfl⟩
    obtain ⟨b1, b2⟩ := (hxb _ hbx).1
    rw [hoth _ b2 (by omega)]
    exact zho (zao TT) bytes _ _ hb hwokc (by rw [hfst]; exact hxs) hm)
   have hrt : TT.rblk = Tr.blk h (lay g false h t xs) /\ TT.rgen = Tr.gen h (lay g false h t xs) := by
    unfold Tree.rblk Tree.rgen
    rw [hTr]
    exact ztf g true false h t xs
   have hhere := hon.here
   have hrb : 2 <= TT.rblk /\ TT.rblk < n := by rw [hrt.1]; exact hhere.1
   have hrg : TT.rgen <= g := by rw [hrt.2]; exact hhere.2.1
   rw [<- hrd']
   refine ⟨⟨[hd], ?_⟩, .inr ⟨h, _, hT0, hrt.1.symm, hrt.2.symm, by show 0 < TT.rblk; omega⟩, fun k t' ht => ?_, ?_⟩
   . refine zn9 hh ?_ ?_ (by omega) (by omega) (by omega) (by omega) (.inl (by omega))
     . exact hold hd.slot (by omega) (by omega) (fun hx => by have := (hxb _ hx).1.1; omega)
     . rw [hrd']; exact zcg hb2 (by omega) hpl
   . rw [hT0] at ht
     injection ht with ht
     cases ht
     exact hon
   . have hbk : (T1.lay g false xs).blks = blks h (lay g false h t xs) := by unfold Tree.blks; rw [hT0]
     rw [hbk]
     refine (zli g false h t xs hxl).nodup_iff.2 ?_
     rw [List.nodup_append]
     refine ⟨by have := hc.nd; rwa [hcb] at this, hxs, fun a ha b hb' e => (hxb b hb').2 (e ▸ ha)⟩
theorem zqy : ∀ (h : Nat) (n : Tr h), Reg h n -> NS (fun h n => 1 <= Tr.len h n) h n
 | 0, n, hr => by
   have : 2 <= (Nd.es n).length := hr
   show 1 <= (Nd.es n).length
   omega
 | h + 1, n, hr => ⟨show 1 <= (Nd.es n).length by have : 3 <= (Nd.es n).length := hr.1; omega, fun e he => zqy h e.2 (hr.2 e he)⟩
theorem zqz : ∀ (h : Nat) (n : Tr h), Top h n -> NS (fun h n => 1 <= Tr.len h n) h n
 | 0, _, ht => ht
 | h + 1, n, ht => by
   rcases ht with ⟨h1, h2⟩ | ⟨e, he, ht⟩
   . exact ⟨show 1 <= (Nd.es n).length by have : 2 <= (Nd.es n).length := h1; omega, fun e he => zqy h e.2 (h2 e he)⟩
   . refine ⟨show 1 <= (Nd.es n).length by rw [he]; simp, fun x hx => ?_⟩
     rw [he] at hx
     rw [List.mem_singleton.1 hx]
     exact zqz h e.2 ht
theorem TF.sizes {t : Tree} (ht : TF t) : TN (fun h n => Tr.size h n <= 116 /\ 1 <= Tr.len h n) t := fun h n hr => by
 obtain ⟨t1, t2, _, _⟩ := ht.some_ h n hr
 exact (zjb h n t2).and (zqz h n t1)
variable {N K b n x G : Nat} {wr : Value} {T : Tree} {r : SR} {rs : List Rdr} {w w' : World}
theorem zuy {V V' : Str -> Prop} {t S : Nat} {T1 : Tree} {rp : Value} {ds : List Nat} {stamp : Int} (h : StoreR N w K b n x G (.pointer (some ⟨t, 0, none⟩)) T r []) (ht : Trans N w t x S T1 rp ds stamp) (hg : Good V T1) (hg0 : Good V' T) (hn : 8 <= n /\ n <= 400) (hG : G + 1 < 1073741824) (hK : K + 200 < zbf) (hroom : T1.keys + T.keys + 10 <= n) (hd : zar T1 <= 190) (hh : ∃ tl, zba (dread r.bytes []) = r.hd :: tl) (hC : CInv (dread r.bytes []) n r.hd.gen T1) :
   Calls Tryz.prog 26 #[.pointer (some ⟨t, 0, none⟩)] w fun e w' => e = .returned .nilIface /\ (∃ T' r', StoreR N w' (K + 200) b n x (G + 1) (.pointer none) T' r' [] /\ Good V T' /\ zar T' = 0 /\ T'.pairs = T1.pairs /\ T'.keys = T1.keys /\ DInv (dread r'.bytes []) n r'.hd T') /\ KpP N w w' := by
 have hlen : ds.length = zar T1 := ht.tree.count
 have hrm := zs7 hg hg0 (rp0 := r.rp) hlen hroom
 have hxl : (zbb [(T, r.rp, [])] T1 n ds.length).length = zar T1 := by
  unfold zbb
  rw [List.length_take, <- hlen]
  exact Nat.min_eq_left hrm
 have hxb : ∀ y ∈ zbb [(T, r.rp, [])] T1 n ds.length, (2 <= y /\ y < n) /\ y ∉ T1.cblks := fun y hy => by
  obtain ⟨a1, a2, a3⟩ := zh2 (List.mem_of_mem_take hy)
  refine ⟨⟨a1, a2⟩, fun hm => a3 ?_⟩
  unfold zb2
  rw [zg0]
  exact .inr hm
 have hDI := zhx (g := r.hd.gen + 1) h.disk.len h.disk.cap hn hh (by have := h.gen; omega) hg.tf hC hg.tf.sizes ((zp5 _ _ _).sublist (List.take_sublist ..)) hxb hxl rfl rfl
 refine (zuo t x rp T1 ds stamp ⟨r.dk, r.rp, T.keys, .pointer (some ⟨t, 0, none⟩), r.rd, false⟩ T K b r.g r.base n (.slice none 0 0) r.m r.bytes [] r.hd w ht.tx h.db rfl h.rd rfl
  ⟨h.disk, .inl h.calm, h.dkb, ht.tree, ht.nd, h.tree, hn, h.slot, by have := h.gen; omega, hg.tf.q0, hg.sm, hrm, by omega, by simp⟩ h.calm).mono ?_
 rintro e w' ⟨rfl, hp⟩
 have hgen := h.gen
 have hlay := hg.lay (g := r.hd.gen + 1) (n0 := n) (xs := zbb [(T, r.rp, [])] T1 n ds.length) (by omega) (by omega) (by omega) (fun y hy => (zh2 (List.mem_of_mem_take hy)).2.1)
 refine ⟨rfl, ⟨T1.lay (r.hd.gen + 1) false (zbb [(T, r.rp, [])] T1 n ds.length), ⟨r.g, r.base, _, _, r.dk, r.rd, ⟨1 - r.hd.slot, r.hd.gen + 1, _, _⟩, rp⟩, ⟨hp.disk.more (by omega), ?_, hp.dkb, by show 1 - r.hd.slot < 2; omega, by show r.hd.gen + 1 <= G + 1; omega, hp.db, hp.rd, hp.tree, h.nb, h.ng, h.ndk, h.nx, h.nrd, (fun _ h => by cases h), List.nodup_nil⟩, hlay.1, hlay.2, Tree.lay_pairs _ _ _ _, rfl, hDI⟩, KpP.of_only hp.only h.size (fun y e => ?_) fun X hX y cs hy e => ?_⟩
 . exact ((zkf h.calm _).tick.wrote).tick
 . rcases e with (e | rfl | e) | rfl | rfl | rfl
   . rcases e with rfl | rfl | e
     . exact h.nb
     . exact h.ng
     . simp [Value.ownBlock] at e
   . exact h.ndk
   . exact ht.nds y e
   . exact ht.nt
   . exact h.nx
   . exact h.nrd
 . rcases e with (e | e | e) | e | e | e
   . exact h.disk.ne hy (hX.ne (by decide) (by decide)) (hX.ne (by decide) (by decide)) (hX.ne (by decide) (by decide)) e
   . exact Blk.ne_ hy h.dkb (hX.ne (by decide) (by decide)) e
   . obtain ⟨_, _, _, _, hn⟩ := ht.tree.dirt _ e
     exact Blk.ne_ hy hn (hX.ne (by decide) (by decide)) rfl
   . exact Blk.ne_ hy ht.tx (hX.ne (by decide) (by decide)) e
   . exact Blk.ne_ hy h.db (hX.ne (by decide) (by decide)) e
   . exact h.rd.ne_blk hy e.symm
end Go.Proofs.YtemondlgcmpbbaaGreatDoor
