/- Wp Wq Wr Fm: merged. -/
import Derived.Test.YtemondlgcmpbbaaGreatDoorMX18
import Derived.Test.YtemondlgcmpbbaaGreatDoorMX01
import Derived.Test.YtemondlgcmpbbaaGreatDoorMX02
import Derived.Test.YtemondlgcmpbbaaGreatDoorMX15
namespace Go.Proofs.YtemondlgcmpbbaaGreatDoor
open Go.RowKit
set_option maxRecDepth 100000
def zd3 (ok : Nat -> Prop) (w : World) (h : Nat) (t : Tr h) (ds : List Nat) : Ending -> World -> Prop := fun e w' =>
 ∃ b' ds', e = .returned (P b') /\ FRep (up ok w.heap.size) w' h t b' (ds' ++ [b']) /\ (ds' ++ [b']).Nodup /\ (∀ x ∈ ds', x ∈ ds \/ w.heap.size <= x) /\ w.heap.size <= b' /\ Below w.heap.size w w'
theorem zph (es : List (Str × Str)) (key v : Str) : ∀ (i : Nat), i < es.length -> ((pcells es).set (i * 2) (.string key)).set (i * 2 + 1) (.string v) = pcells (es.take i ++ (key, v) :: es.drop (i + 1)) := by
 induction es with
 | nil => intro i h; simp at h
 | cons e es ih =>
   intro i h
   cases i with
   | zero => simp [pcells]
   | succ i =>
     have := ih i (by simpa using h)
     simp only [pcells, List.flatMap_cons, List.cons_append, List.nil_append, List.take_succ_cons, List.drop_succ_cons, show (i + 1) * 2 = i * 2 + 1 + 1 by omega, List.set_cons_succ] at this ⊢
     rw [this]
theorem zk7 (es : List (Str × Str)) (key v : Str) : ∀ (i : Nat), i <= es.length -> (pcells es).take (i * 2) ++ [.string key, .string v] ++ (pcells es).drop (i * 2) = pcells (es.take i ++ (key, v) :: es.drop i) := by
 induction es with
 | nil => intro i h; simp at h; subst h; simp [pcells]
 | cons e es ih =>
   intro i h
   cases i with
   | zero => simp [pcells]
   | succ i =>
     have := ih i (by simpa using h)
     simp only [pcells, List.flatMap_cons, List.cons_append, List.nil_append, List.take_succ_cons, List.drop_succ_cons, show (i + 1) * 2 = i * 2 + 1 + 1 by omega, List.append_assoc] at this ⊢
     rw [this]
theorem zk8 (es : List (Str × Str)) : ∀ (i : Nat), i < es.length -> (pcells es).take (i * 2) ++ (pcells es).drop (i * 2 + 2) = pcells (es.take i ++ es.drop (i + 1)) := by
 induction es with
 | nil => intro i h; simp at h
 | cons e es ih =>
   intro i h
   cases i with
   | zero => simp [pcells]
   | succ i =>
     have := ih i (by simpa using h)
     simp only [pcells, List.flatMap_cons, List.cons_append, List.nil_append, List.take_succ_cons, List.drop_succ_cons, show (i + 1) * 2 = i * 2 + 1 + 1 by omega, show i * 2 + 1 + 1 + 2 = i * 2 + 2 + 1 + 1 by omega] at this ⊢
     rw [this]
theorem zio {K : Type} {key : Str} {es : List (Str × K)} (h : there key es = true) : place key es < es.length := by
 unfold there at h
 cases hd : es.drop (place key es) with
 | nil => rw [hd] at h; cases h
 | cons e r =>
   have := congrArg List.length hd
   simp only [List.length_drop, List.length_cons] at this
   omega
theorem zjh (base n c i : Nat) (A : Option Addr) (xs : List Value) (w : World) (hown : w.ownsRow base 68 2 (.slice A n c) n xs) (hi : i + 1 <= n) (hn : n <= 1000) (h1 : ∀ u ∈ xs, u.oneCell' = true) :
   Calls Tryz.prog 119 #[.slice A n c, .int .i64 i, .int .i64 (i + 1)] w fun e w' => e = .returned (.slice A (n - 1) c) /\ w'.ownsRow base 68 2 (.slice A (n - 1) c) (n - 1) (xs.take (i * 2) ++ xs.drop (i * 2 + 2)) /\ w.grownBy w' (Value.slice A n c).ownBlock := by
 obtain ⟨m, rfl⟩ : ∃ m, n = m + 1 := ⟨n - 1, by omega⟩
 have hl := hown.1
 obtain ⟨g, cur, rfl, hb, hg, hx, hcs, hnc, hcm⟩ := zcx hown (by omega)
 obtain ⟨L⟩ := cur
 have hx' : L.take ((m + 1) * 2) = xs := hx
 refine (zng g m c i L w hg (by simpa using hcs) hnc (by omega) (by omega) (by rw [hx']; exact h1) hcm).mono ?_
 rintro e w' ⟨cur', rfl, hgr, _, hb', hlen, htk⟩
 refine ⟨rfl, ⟨?_, .inr ⟨g, c, cur'.toArray, rfl, hb, hb', by omega, hcm, by simpa using hlen, ?_⟩⟩, hgr⟩
 . simp only [List.length_append, List.length_take, List.length_drop]; omega
 . rw [hx'] at htk
   have h2 : L.take (i * 2) = xs.take (i * 2) := by rw [<- hx', List.take_take, Nat.min_eq_left (by omega)]
   rw [h2] at htk
   simpa using htk
theorem zl7 {w : World} {base n : Nat} {T : TypeId} {v : Value} {xs : List Value} (h : w.ownsRow base T 2 v n xs) {g : Nat} (e : v.ownBlock = some g) : base <= g := by
 rcases h.2 with ⟨rfl, _⟩ | ⟨g', cap, cur, rfl, hb, _⟩
 . cases e
 . injection e with e
   subst e
   exact hb
set_option maxHeartbeats 1600000 in
theorem zq6 {ok : Nat -> Prop} (t : Tr 0) (key : Str) (b : Nat) (ds : List Nat) (w : World) (hf : FRep ok w 0 t b ds) (hr : zcs (Nd.es t)) (hn : (Nd.es t).length <= 400) (hth : there key (Nd.es t) = true) :
   Calls Tryz.prog 80 #[P b, .string key] w (zd3 ok w 0 (Tr.drop 0 t key) ds) := by
 have hlt := zio hth
 obtain ⟨A1, c1, A2, c2, hnd, hb, hro, hds⟩ := hf
 have HC := zaa (zfh b (Nd.blk t) (Nd.gen t) (Nd.dirty t) A1 (Nd.es t).length c1 (pcells (Nd.es t)) A2 0 c2 [] w hnd (zcn _) (fun u hu => by cases hu) (by omega) (by omega))
 obtain ⟨es, hes⟩ : ∃ es, es = Nd.es t := ⟨_, rfl⟩
 have hdr : Tr.drop 0 t key = fresh (zby key es) := by rw [hes]; rfl
 rw [hdr]
 rw [<- hes] at HC hr hn hlt hth
 obtain ⟨i, hi⟩ : ∃ i, i = place key es := ⟨_, rfl⟩
 rw [<- hi] at hlt
 have HR := zaa hr
 have HTH := zaa hth
 have HI := zaa hi
 clear hnd hro hds hb hr hth hi hes hdr
 have k0 : (0 : Int) <= (i : Int) := by omega
 have k1 : IntKind.i64.wrap ((i : Int) + 1) = (i : Int) + 1 := by rw [IntKind.wrap_i64]; omega
 unfold P
 go_enter Tryz.func80, Tryz.ntmps80
 go_wp2_with (first
  | (go_at_call 118; go_loud (
     refine HC.out.mono ?_; rintro e w1 ⟨b', v1, v2, rfl, hb1, ho1, ho2, hbb, hbl⟩
     obtain ⟨A1', c1', rfl, hc1, ho1⟩ := zbf ho1
     obtain ⟨A2', c2', rfl, hc2, ho2⟩ := zbf ho2
     have hrep : Rep w1 0 (fresh es : Nd Str) b' [b'] := (FRep.mk_leaf (ok := fun _ => True) rfl hb1 ho1 ho2 hbb (fun _ _ _ => trivial)).rep
     have LEAF := zaa (zdq b' 0 0 c2' true _ A2' w1 hb1)
     have PLACE := zaa (zft (fresh es : Nd Str) key b' [b'] w1 hrep HR.out (Nat.le_trans hn (by omega)))
     have HB1 := zaa hb1
     have HO1 := zaa ho1
     have HO2 := zaa ho2
     have HBL := zaa hbl
     clear hb1 ho1 ho2 hbl hrep))
  | (go_at_call 81; go_loud (refine LEAF.out.mono ?_; rintro e w' ⟨rfl, rfl⟩))
  | (go_at_call 83; go_loud (
     refine PLACE.out.mono ?_; rintro e w2 ⟨rfl, hb2⟩
     rw [show place key (Nd.es (fresh es : Nd Str)) = i from HI.out.symm, show there key (Nd.es (fresh es : Nd Str)) = true from HTH.out]
     have hx2 := HB1.out.below hb2 HB1.out.lt
     have e3 : w2.cell? ⟨b', 3, none⟩ = some (.slice A1' es.length c1') := by rw [hx2.cell]; rfl
     have HX2 := zaa hx2
     have HB2 := zaa hb2
     clear hb2 hx2))
  | (go_at_call 119; go_loud (
     refine (zjh w.heap.size es.length c1' i A1' (pcells es) _ (zat HO1.out HB2.out) hlt (Nat.le_trans hn (by omega)) (zcn _)).mono ?_
     rintro e w3 ⟨rfl, ho3, hg3⟩
     have hx3 := HX2.out.grown hg3 (fun e => zae (zat HO1.out HB2.out) HX2.out (by decide) e.symm)
     have e5 : w3.cell? ⟨b', 3, none⟩ = some (.slice A1' es.length c1') := by rw [hx3.cell]; rfl
     have z3 : w3.frozen? ⟨b', 3, none⟩ = false := hx3.frozen 3
     have HX3 := zaa hx3
     clear hx3)))
 go_ret
 have hb2s := HB2.out.size
 have hb1s := HBL.out.size
 have hg3s := hg3.size
 have hke := World.ownsRow.kept (zat HO2.out HB2.out) hg3 (ze9 (zat HO2.out HB2.out) (zat HO1.out HB2.out) (by decide))
 rw [zk8 es i hlt] at ho3
 have hld : zby key es = es.take i ++ es.drop (i + 1) := by unfold zby; rw [<- HI.out]
 have hbl3 : Below w.heap.size w w3 := ((HBL.out.trans (HB2.out.mono hb1s)).trans (zej hg3 (fun g e => (zl7 HO1.out e)) (by omega)))
 refine ⟨b', [], rfl, ?_, by simp, (fun x hx => by cases hx), hbb, hbl3.setCell (p := ⟨b', 3, none⟩) hbb _⟩
 rw [hld]
 exact FRep.mk_leaf (base := w.heap.size) (es := es.take i ++ es.drop (i + 1)) (by simp only [List.length_append, List.length_take, List.length_drop]; omega) (HX3.out.set_ 3 (.slice A1' (es.length - 1) c1')) (ownsRow_setCell_other ho3 (zae ho3 HX3.out (by decide)) _) (ownsRow_setCell_other hke (zae hke HX3.out (by decide)) _) hbb (fun x hx _ => .inr hx)
set_option maxHeartbeats 1600000 in
theorem zl8 {ok : Nat -> Prop} (t : Tr 0) (key v : Str) (b : Nat) (ds : List Nat) (w : World) (hf : FRep ok w 0 t b ds) (hr : zcs (Nd.es t)) (hn : (Nd.es t).length <= 400) :
   Calls Tryz.prog 84 #[P b, .agg #[.string key, .string v]] w (zd3 ok w 0 (Tr.put 0 t key v) ds) := by
 have hbl0 : Below w.heap.size w (w.alloc (.cells #[.string key, .string v] 68)) := (Below.refl _ _).alloc (Nat.le_refl _) _
 have hf1 := hf.below hbl0 (fun _ h => h)
 have hbx : Blk (w.alloc (.cells #[.string key, .string v] 68)) w.heap.size 68 #[.string key, .string v] := Blk.new _ _ _
 obtain ⟨w0, hw0⟩ : ∃ w0, w0 = w.alloc (.cells #[.string key, .string v] 68) := ⟨_, rfl⟩
 rw [<- hw0] at hbl0 hf1 hbx
 obtain ⟨A1, c1, A2, c2, hnd, hb, hro, hds⟩ := hf1
 have HC := zaa (zfh b (Nd.blk t) (Nd.gen t) (Nd.dirty t) A1 (Nd.es t).length c1 (pcells (Nd.es t)) A2 0 c2 [] w0 hnd (zcn _) (fun u hu => by cases hu) (by omega) (by omega))
 obtain ⟨es, hes⟩ : ∃ es, es = Nd.es t := ⟨_, rfl⟩
 have hdr : Tr.put 0 t key v = fresh (zb7 key v es) := by rw [hes]; rfl
 rw [hdr]
 rw [<- hes] at HC hr hn
 have hle := zdo key es
 have hlt : there key es = true -> place key es < es.length := zio
 obtain ⟨i, hi⟩ : ∃ i, i = place key es := ⟨_, rfl⟩
 obtain ⟨th, hth⟩ : ∃ th, th = there key es := ⟨_, rfl⟩
 rw [<- hi] at hlt hle
 rw [<- hth] at hlt
 have HR := zaa hr
 have HTH := zaa hth
 have HI := zaa hi
 have HBX := zaa hbx
 have HB0 := zaa hbl0
 have HW0 := zaa hw0
 clear hnd hro hds hb hr hth hi hes hdr hf hbx hbl0 hw0
 have k0 : (0 : Int) <= (i : Int) := by omega
 unfold P
 go_enter Tryz.func84, Tryz.ntmps84
 go_upto_if 20 with (first
  | (go_at_call 118; go_loud (
     rw [<- HW0.out]
     refine HC.out.mono ?_; rintro e w1 ⟨b', v1, v2, rfl, hb1, ho1, ho2, hbb, hbl⟩
     obtain ⟨A1', c1', rfl, hc1, ho1⟩ := zbf ho1
     obtain ⟨A2', c2', rfl, hc2, ho2⟩ := zbf ho2
     have hrep : Rep w1 0 (fresh es : Nd Str) b' [b'] := (FRep.mk_leaf (ok := fun _ => True) rfl hb1 ho1 ho2 hbb (fun _ _ _ => trivial)).rep
     have hbx1 := HBX.out.below hbl HBX.out.lt
     have y1 : w1.cell? ⟨w.heap.size, 0, none⟩ = some (.string key) := by rw [hbx1.cell]; rfl
     have LEAF := zaa (zdq b' 0 0 c2' true _ A2' w1 hb1)
     have PLACE := zaa (zft (fresh es : Nd Str) key b' [b'] w1 hrep HR.out (Nat.le_trans hn (by omega)))
     have HB1 := zaa hb1
     have HO1 := zaa ho1
     have HO2 := zaa ho2
     have HBL := zaa hbl
     have HBX1 := zaa hbx1
     clear hb1 ho1 ho2 hbl hrep hbx1))
  | (go_at_call 81; go_loud (refine LEAF.out.mono ?_; rintro e w' ⟨rfl, rfl⟩))
  | (go_at_call 83; go_loud (
     refine PLACE.out.mono ?_; rintro e w2 ⟨rfl, hb2⟩
     rw [show place key (Nd.es (fresh es : Nd Str)) = i from HI.out.symm, show there key (Nd.es (fresh es : Nd Str)) = th from HTH.out.symm]
     have hx2 := HB1.out.below hb2 HB1.out.lt
     have hbx2 := HBX1.out.below hb2 HBX1.out.lt
     have e3 : w2.cell? ⟨b', 3, none⟩ = some (.slice A1' es.length c1') := by rw [hx2.cell]; rfl
     have z3 : w2.frozen? ⟨b', 3, none⟩ = false := hx2.frozen 3
     have y2 : w2.cell? ⟨w.heap.size, 0, none⟩ = some (.string key) := by rw [hbx2.cell]; rfl
     have y3 : w2.cell? ⟨w.heap.size, 1, none⟩ = some (.string v) := by rw [hbx2.cell]; rfl
     have HX2 := zaa hx2
     have HB2 := zaa hb2
     clear hb2 hx2 hbx2)))
 have hb2s := HB2.out.size
 have hb1s := HBL.out.size
 have hb0s := HB0.out.size
 cases th with
 | true =>
   have hlt' := hlt rfl
   have ho1' := zat HO1.out HB2.out
   obtain ⟨g, cur, rfl, hbg, hgb, hgx, hgs, hgn, hgm⟩ := zcx ho1' (by omega)
   have f1 : w2.frozen? ⟨g, i * 2, none⟩ = false := hgb.frozen _
   have f2 : w2.frozen? ⟨g, i * 2 + 1, none⟩ = false := hgb.frozen _
   have q1 : w2.cell? ⟨g, i * 2, none⟩ = cur[i * 2]? := by rw [hgb.cell]
   have q2 : w2.cell? ⟨g, i * 2 + 1, none⟩ = cur[i * 2 + 1]? := by rw [hgb.cell]
   rw [Array.getElem?_eq_getElem (by omega)] at q1 q2
   have k2 : (i : Int) < (es.length : Int) := by omega
   have HGB := zaa hgb
   have HO1' := zaa ho1'
   clear hgb ho1' hlt
   go_upto_region 5 with fail
   go_region
   go_wp2
   go_ret
   have hs1 := zj3 (zj3 HO1'.out (j := i * 2) (by omega) (.string key)) (j := i * 2 + 1) (by omega) (.string v)
   rw [zph es key v i hlt'] at hs1
   have hke := ownsRow_setCell_other (a := ⟨g, i * 2, none⟩) (zat HO2.out HB2.out) (zae (zat HO2.out HB2.out) HGB.out (by decide)) (.string key)
   have hke2 := ownsRow_setCell_other (a := ⟨g, i * 2 + 1, none⟩) hke (zae (zat HO2.out HB2.out) HGB.out (by decide)) (.string v)
   have hne : b' ≠ g := HX2.out.ne_ HGB.out (by decide)
   have hx4 := (HX2.out.far (p := ⟨g, i * 2, none⟩) hne (.string key)).far (p := ⟨g, i * 2 + 1, none⟩) hne (.string v)
   have hbl4 : Below w.heap.size w (((w2.setCell ⟨g, i * 2, none⟩ (.string key)).setCell ⟨g, i * 2 + 1, none⟩ (.string v)).drew) :=
    ((((HB0.out.trans (HBL.out.mono hb0s)).trans (HB2.out.mono (by omega))).setCell (p := ⟨g, i * 2, none⟩) (by simp only; omega) _).setCell (p := ⟨g, i * 2 + 1, none⟩) (by simp only; omega) _).drew
   have hld : zb7 key v es = es.take i ++ (key, v) :: es.drop (i + 1) := by unfold zb7; rw [<- HI.out, <- HTH.out]; rfl
   refine ⟨b', [], rfl, ?_, by simp, (fun x hx => by cases hx), by omega, hbl4⟩
   rw [hld]
   exact FRep.mk_leaf (base := w0.heap.size) (es := es.take i ++ (key, v) :: es.drop (i + 1)) (by simp only [List.length_append, List.length_take, List.length_drop, List.length_cons]; omega) hx4.drew (World.ownsRow.drew hs1) (World.ownsRow.drew hke2) hbb (fun x hx _ => .inr (by omega))
 | false =>
   have ho1' := zat HO1.out HB2.out
   have HO1' := zaa ho1'
   have KONE := zaa (zcn es)
   have hone : ∀ u ∈ ([.string key, .string v] : List Value), u.oneCell' = true := by
    intro u hu
    simp only [List.mem_cons, List.not_mem_nil, or_false] at hu
    rcases hu with rfl | rfl <;> rfl
   have HONE := zaa hone
   have ne3 : (Value.slice A1' es.length c1').ownBlock ≠ some w2.heap.size := by
    intro e
    rcases ho1'.2 with ⟨h0, _⟩ | ⟨g', cap, cur, hv, _, hg, _⟩
    . rw [h0] at e; cases e
    . rw [hv] at e
      injection e with e
      subst e
      exact absurd (Blk.lt (t := 68) hg) (by omega)
   have j1 := fun o1 => za3 o1 e3
   clear ho1' hone hlt
   go_upto_region 6 with fail
   go_region_law (first
    | (go_simp; go_at_call 124
       refine (zni w0.heap.size es.length i w2.heap.size A1' c1' (pcells es) (.string key) (.string v) _ (zat HO1'.out (((Below.refl _ _).alloc (Nat.le_refl _) _).drew)) (Blk.new w2 _ _).drew ne3 hle (Nat.le_trans hn (by omega)) KONE.out HONE.out (by simp; omega) hc1).mono ?_
       rintro e w5 ⟨v5, rfl, ho5, hg5, hat5⟩
       obtain ⟨A5, c5, rfl, hc5, ho5⟩ := zbf ho5
       have s1 := ((HX2.out.below ((Below.refl _ _).alloc (Nat.le_refl _) (Obj.cells #[.string key, .string v] 68)) HX2.out.lt)).drew.grown hg5 (fun e => zae HO1'.out HX2.out (by decide) e.symm)
       have s2 : w5.cell? ⟨b', 3, none⟩ = some (.slice A1' es.length c1') := by rw [s1.cell]; rfl
       have s3 : w5.frozen? ⟨b', 3, none⟩ = false := s1.frozen 3
       have S1 := zaa s1
       clear s1))
   all_goals
    go_wp2
    go_ret
    rw [zk7 es key v i hle] at ho5
    have hal : Below w2.heap.size w2 (w2.alloc (Obj.cells #[.string key, .string v] 68)).drew := ((Below.refl w2.heap.size w2).alloc (Nat.le_refl _) _).drew
    have hke0 := zat (zat HO2.out HB2.out) hal
    have hke := World.ownsRow.kept hke0 hg5 (ze9 hke0 (zat HO1'.out hal) (by decide))
    have hld : zb7 key v es = es.take i ++ (key, v) :: es.drop i := by unfold zb7; rw [<- HI.out, <- HTH.out]; simp
    have hbl4 : Below w.heap.size w w5 := ((((HB0.out.trans (HBL.out.mono hb0s)).trans (HB2.out.mono (by omega))).trans (hal.mono (by omega))).trans (zej hg5 (fun g e => by have := zl7 HO1'.out e; omega) (by simp; omega)))
    have hw5s := hg5.size
    refine ⟨b', [], rfl, ?_, by simp, (fun x hx => by cases hx), by omega, hbl4.setCell (p := ⟨b', 3, none⟩) (by simp only; omega) _⟩
    rw [hld]
    exact FRep.mk_leaf (base := w0.heap.size) (es := es.take i ++ (key, v) :: es.drop i) (by simp only [List.length_append, List.length_take, List.length_drop, List.length_cons]; omega) (S1.out.set_ 3 (.slice A5 (es.length + 1) c5)) (ownsRow_setCell_other ho5 (zae ho5 S1.out (by decide)) _) (ownsRow_setCell_other hke (zae hke S1.out (by decide)) _) hbb (fun x hx _ => .inr (by omega))
theorem zl9 {h : Nat} {key : Str} {pre post : List (Str × Tr h)} {k : Str} {c : Tr h} (f : Tr h -> Tr h) (hb : below key (pre ++ (k, c) :: post) = pre.length) : za8 h key (pre ++ (k, c) :: post) f = zbr h pre k (f c) post := by
 unfold za8
 rw [hb, List.drop_left, List.take_left]
theorem zji {dp dq : List (List Nat)} {dc dt : List Nat} {B : Nat} (h : (dp ++ dc :: dq).flatten.Nodup) (hB : ∀ x ∈ (dp ++ dc :: dq).flatten, x < B) (ht : dt.Nodup) (hs : ∀ x ∈ dt, x ∈ dc \/ B <= x) : (dp ++ dt :: dq).flatten.Nodup /\ ∀ x ∈ (dp ++ dt :: dq).flatten, x ∈ (dp ++ dc :: dq).flatten \/ B <= x := by
 simp only [List.flatten_append, List.flatten_cons, List.nodup_append, List.mem_append] at h hB ⊢
 obtain ⟨h1, ⟨h2, h3, h4⟩, h5⟩ := h
 refine ⟨⟨h1, ⟨ht, h3, fun a ha b hb e => ?_⟩, fun a ha b hb e => ?_⟩, fun x hx => ?_⟩
 . rcases hs a ha with k | k
   . exact h4 a k b hb e
   . have := hB b (.inr (.inr hb)); omega
 . rcases hb with hb | hb
   . rcases hs b hb with k | k
     . exact h5 a ha b (.inl k) e
     . have := hB a (.inl ha); omega
   . exact h5 a ha b (.inr hb) e
 . rcases hx with hx | hx | hx
   . exact .inl (.inl hx)
   . rcases hs x hx with k | k
     . exact .inl (.inr (.inl k))
     . exact .inr k
   . exact .inl (.inr (.inr hx))
theorem zma {ok : Nat -> Prop} {w w1 : World} {h b' : Nat} {es : List (Str × Tr h)} {bs : List Nat} {dss : List (List Nat)} {A1 A2 : Option Addr} {c1 c2 : Nat} (hk : RepL (FRep ok w h) es bs dss) (hb1 : Blk w1 b' 137 #[.int .i64 0, .int .u32 0, .bool true, .slice A1 0 c1, .slice A2 es.length c2])
   (ho1 : w1.ownsRow w.heap.size 68 2 (.slice A1 0 c1) 0 []) (ho2 : w1.ownsRow w.heap.size 139 2 (.slice A2 es.length c2) es.length (kcells es bs)) (hbb : w.heap.size <= b') (hbl : Below w.heap.size w w1) :
   Opn (up ok w.heap.size) w.heap.size w1 h b' es bs dss A1 c1 A2 es.length c2 := by
 refine ⟨rfl, hb1, ho1, ho2, hbb, hk.mono fun _ _ _ hk => hk.lt.move (Agree.of_below hbl fun x hx => hx.2) fun x hx => ⟨.inl hx.1, by have := hx.2; omega, fun a ha e => ?_⟩⟩
 subst ha
 have := zl7 ho2 (g := a.block) rfl
 have := hx.2
 omega
theorem zmb {ok : Nat -> Prop} {w w3 : World} {h b' n c1 c2 : Nat} {es : List (Str × Tr h)} {bs : List Nat} {dss : List (List Nat)} {A1 A2 : Option Addr} {B : Nat} (o : Opn (up ok B) w.heap.size w3 h b' es bs dss A1 c1 A2 n c2) (hB : B <= w.heap.size) : FRep (up ok B) w3 (h + 1) (fresh es : Nd (Tr h)) b' (dss.flatten ++ [b']) := 
 FRep.mk_branch (base := w.heap.size) o.len o.node o.ps o.ks o.hb (fun x hx _ => .inr (by omega)) (o.kids.mono fun _ _ _ hk => hk.more fun _ hx => hx.1)
section
variable {ok : Nat -> Prop} {h : Nat} {t : Tr (h + 1)} {pre post : List (Str × Tr h)} {k : Str} {c : Tr h}
set_option maxHeartbeats 1600000 in
theorem znr (key : Str) (b : Nat) (ds : List Nat) (w : World) (hf : FRep ok w (h + 1) t b ds) (hnd : ds.Nodup) (hes : Nd.es t = pre ++ (k, c) :: post) (hbl : below key (Nd.es t) = pre.length) (hn : (Nd.es t).length <= 400)
   (hkid : ∀ e ∈ pre ++ (k, Tr.drop h c key) :: post, zd2 h e.2 /\ e.1.size <= 15)
   (IH : ∀ (ok' : Nat -> Prop) (bc : Nat) (dc : List Nat) (w' : World), FRep ok' w' h c bc dc -> dc.Nodup -> Calls Tryz.prog 80 #[P bc, .string key] w' (zd3 ok' w' h (Tr.drop h c key) dc)) :
   Calls Tryz.prog 80 #[P b, .string key] w (zd3 ok w (h + 1) (Tr.drop (h + 1) t key) ds) := by
 obtain ⟨A1, c1, A2, c2, bs, dss, hnode, hb, hro, hk, hds⟩ := hf
 have hbs := hk.len.1
 have HC := zaa (zfh b (Nd.blk t) (Nd.gen t) (Nd.dirty t) A1 0 c1 [] A2 (Nd.es t).length c2 (kcells (Nd.es t) bs) w hnode (fun u hu => by cases hu) (zb0 _ _) (by omega) (by omega))
 have hdr : Tr.drop (h + 1) t key = fresh (zbr h pre k (Tr.drop h c key) post) := by
  show fresh (za8 h key (Nd.es t) fun c => Tr.drop h c key) = _
  rw [hes] at hbl ⊢
  rw [zl9 _ hbl]
 rw [hdr]
 have hnd' : dss.flatten.Nodup := by rw [hds] at hnd; exact (List.nodup_append.1 hnd).1
 have hsub : ∀ x ∈ dss.flatten, x ∈ ds := fun x hx => by rw [hds]; exact List.mem_append_left _ hx
 have hblt := hb
 obtain ⟨es, hE⟩ : ∃ es, es = Nd.es t := ⟨_, rfl⟩
 rw [<- hE] at HC hes hbl hn hk hbs
 obtain ⟨i, hi⟩ : ∃ i, i = pre.length := ⟨_, rfl⟩
 have hil : i < es.length := by rw [hes, hi]; simp
 rw [<- hi] at hbl
 have HK := zaa hk
 have HIH := zaa IH
 have HKID := zaa hkid
 have HND := zaa hnd'
 have HSUB := zaa hsub
 have HES := zaa hes
 have HI := zaa hi
 have HBS := zaa hbs
 have HBL := zaa hbl
 clear hnode hro hds hb hk IH hkid hnd hnd' hsub hes hi hbs hbl hdr hE
 have k0 : (0 : Int) <= (i : Int) := by omega
 have k2 : (i : Int) < (es.length : Int) := by omega
 unfold P
 go_enter Tryz.func80, Tryz.ntmps80
 go_upto_region 7 with (first
  | (go_at_call 118; go_loud (
     refine HC.out.mono ?_; rintro e w1 ⟨b', v1, v2, rfl, hb1, ho1, ho2, hbb, hbl⟩
     obtain ⟨A1', c1', rfl, hc1, ho1⟩ := zbf ho1
     obtain ⟨A2', c2', rfl, hc2, ho2⟩ := zbf ho2
     have o1 := zma HK.out hb1 ho1 ho2 hbb hbl
     have LEAF := zaa (zee b' 0 0 es.length c2' true _ A2' w1 hb1 (by omega) (Nat.le_trans hn (by omega)))
     have BELOW := zaa (zfs es bs key b' 0 0 c2' true _ A2' w1 hb1 (SlC.of_own ho2) HBS.out (by omega) (Nat.le_trans hn (by omega)))
     obtain ⟨g, cur, rfl, hbg, hgb, hgx, hgs, hgn, hgm⟩ := zcx ho2 (by omega)
     rw [HBL.out] at BELOW
     have O1 := zaa o1
     have HBW := zaa hbl
     have HGB := zaa hgb
     have HGW := zaa hbg
     have e3 : w1.cell? ⟨b', 4, none⟩ = some (.slice (some ⟨g, 0, none⟩) es.length c2') := by rw [hb1.cell]; rfl
     clear hb1 ho1 ho2 hbl o1 hgb))
  | (go_at_call 81; go_loud (refine LEAF.out.mono ?_; rintro e w' ⟨rfl, rfl⟩))
  | (go_at_call 82; go_loud (refine BELOW.out.mono ?_; rintro e w' ⟨rfl, rfl⟩)))
 have o1 := O1.out
 have o1n := o1.len
 rw [HES.out] at o1
 obtain ⟨bp, bc, bq, dp, dc, dq, hbs', hds', l1, l2, r1, r2, r3⟩ := RepL.cut o1.kids
 rw [hbs'] at o1
 have hz1 := (o1.cells l1).2
 rw [<- HI.out] at hz1
 have g1 : w1.cell? ⟨g, i * 2 + 1, none⟩ = some (P bc) := hz1
 have hgl := HGB.out.lt
 have hbl := O1.out.node.lt
 have hndc : dc.Nodup := by
  have := HND.out
  rw [hds'] at this
  simp only [List.flatten_append, List.flatten_cons, List.nodup_append] at this
  exact this.2.1.1
 have CALL := zaa (HIH.out (fp (up ok w.heap.size) b' (some ⟨g, 0, none⟩)) bc dc w1.drew (r2.below (Below.refl _ _).drew (fun _ hx => hx)) hndc)
 have OO := zaa o1
 have HBS' := zaa hbs'
 have HDS' := zaa hds'
 clear hz1 hbs' hds' r1 r2 r3 o1 hndc
 unfold P at g1 CALL
 refine wp_region_held_drew (S := fun w' => w'.cell? ⟨b', 4, none⟩ = some (.slice (some ⟨g, 0, none⟩) es.length c2')) (by kernel_rfl) e3 ?_
 intro hS0
 refine zac 0 (.pointer (some ⟨b', 0, none⟩)) (some 34) rfl rfl (.inl ⟨rfl, fun w' hSw => by go_simp⟩) hS0 ?_
 simp only [Act.put, n1, n2, n3]
 refine zac 1 (.pointer (some ⟨b', 0, none⟩)) (some 35) rfl rfl (.inl ⟨rfl, fun w' hSw => by clear hSw; go_simp⟩) hS0 ?_
 simp only [Act.put, n1, n2, n3]
 refine zac 2 (.pointer (some ⟨b', 4, none⟩)) (some 36) rfl rfl (.inl ⟨rfl, fun w' hSw => by clear hSw; go_simp⟩) hS0 ?_
 simp only [Act.put, n1, n2, n3]
 refine zac 3 (.slice (some ⟨g, 0, none⟩) es.length c2') (some 37) rfl rfl (.inl ⟨rfl, fun w' hSw => by go_simp⟩) hS0 ?_
 simp only [Act.put, n1, n2, n3]
 refine zac 4 (.int .i64 i) (some 38) rfl rfl (.inl ⟨rfl, fun w' hSw => by go_simp⟩) hS0 ?_
 simp only [Act.put, n1, n2, n3]
 refine zac 5 (.pointer (some ⟨b', 0, none⟩)) (some 39) rfl rfl (.inl ⟨rfl, fun w' hSw => by go_simp⟩) hS0 ?_
 simp only [Act.put, n1, n2, n3]
 refine zac 6 (.pointer (some ⟨b', 0, none⟩)) (some 40) rfl rfl (.inl ⟨rfl, fun w' hSw => by clear hSw; go_simp⟩) hS0 ?_
 simp only [Act.put, n1, n2, n3]
 refine zac 7 (.pointer (some ⟨b', 4, none⟩)) (some 41) rfl rfl (.inl ⟨rfl, fun w' hSw => by clear hSw; go_simp⟩) hS0 ?_
 simp only [Act.put, n1, n2, n3]
 refine zac 8 (.slice (some ⟨g, 0, none⟩) es.length c2') (some 42) rfl rfl (.inl ⟨rfl, fun w' hSw => by go_simp⟩) hS0 ?_
 simp only [Act.put, n1, n2, n3]
 refine zac 9 (.int .i64 i) (some 43) rfl rfl (.inl ⟨rfl, fun w' hSw => by go_simp⟩) hS0 ?_
 simp only [Act.put, n1, n2, n3]
 refine zac 10 (.pointer (some ⟨g, i * 2, none⟩)) (some 44) rfl rfl (.inl ⟨rfl, fun w' hSw => by clear hSw; go_simp⟩) hS0 ?_
 simp only [Act.put, n1, n2, n3]
 refine zac 11 (.pointer (some ⟨g, i * 2 + 1, none⟩)) (some 45) rfl rfl (.inl ⟨rfl, fun w' hSw => by clear hSw; go_simp⟩) hS0 ?_
 simp only [Act.put, n1, n2, n3]
 refine zac 13 (.string key) (some 47) rfl rfl (.inl ⟨rfl, fun w' hSw => by go_simp⟩) hS0 ?_
 simp only [Act.put, n1, n2, n3]
 refine zdy (i := 12) (v := (.pointer (some ⟨bc, 0, none⟩))) (w' := w1.drew) (some 46) (by kernel_rfl) rfl rfl rfl (by clear hS0; go_simp) hS0 ?_
 simp only [Act.put, List.setIfInBounds_toArray, List.set_cons_zero, List.set_cons_succ]
 refine zda (i := 14) (f := 80) (some 48) (by kernel_rfl) rfl rfl rfl (by first | (go_simp; done) | (go_simp; rfl)) (CALL.out) ?_
 rintro _ w2 ⟨bt, dt, rfl, ht, hdn, hdd, hbt, hb20⟩
 refine ⟨(.pointer (some ⟨bt, 0, none⟩)), rfl, ((((Below.refl _ _).drew.trans hb20 : Below w1.heap.size w1 w2)).cell hbl).trans e3, ?_⟩
 simp only [Act.put, n1, n2, n3]
 have hb2 : Below w1.heap.size w1 w2 := (Below.refl _ _).drew.trans hb20
 have hS2 := (hb2.cell hbl).trans e3
 refine zac 15 (.pointer (some ⟨g, i * 2, none⟩)) (some 49) rfl rfl (.inl ⟨rfl, fun w' hSw => by clear hSw; go_simp⟩) hS2 ?_
 simp only [Act.put, n1, n2, n3]
 refine zac 16 (.pointer (some ⟨g, i * 2 + 1, none⟩)) (some 50) rfl rfl (.inl ⟨rfl, fun w' hSw => by clear hSw; go_simp⟩) hS2 ?_
 simp only [Act.put, n1, n2, n3]
 have hg2 := HGB.out.below hb2 hgl
 have z1 : w2.frozen? ⟨g, i * 2 + 1, none⟩ = false := hg2.frozen _
 have z2 : w2.cell? ⟨g, i * 2 + 1, none⟩ = some (.pointer (some ⟨bc, 0, none⟩)) := (hb2.cell hgl).trans g1
 refine zaw (i := 17) (by kernel_rfl) rfl rfl ?_
 go_simp
 have hgbb := O1.out.hb
 have hb2s := hb2.size
 have hws := HBW.out.size
 have hgw := HGW.out
 have hjup : ∀ x, up (fp (up ok w.heap.size) b' (some ⟨g, 0, none⟩)) w1.drew.heap.size x -> fp (up ok w.heap.size) b' (some ⟨g, 0, none⟩) x := by
  rintro x (hx | hx)
  . exact hx
  . have h2 : w1.heap.size <= x := hx
    exact ⟨.inr (by omega), by omega, fun a ha => by injection ha with ha; subst ha; show x ≠ g; omega⟩
 have o2 := OO.out.below hb2
 have o3 := o2.setKid (ht.more hjup)
 rw [zdj _ _ _ _ _ l1, HDS'.out, zdj _ _ _ _ _ l2, <- HI.out] at o3
 have hlt1 : ∀ x ∈ dss.flatten, x < w.heap.size := fun x hx => (HK.out.ds (fun _ _ _ hk => FRep.ds hk) x hx).2
 have hnds := zji (dp := dp) (dc := dc) (dt := dt ++ [bt]) (dq := dq) (B := w1.heap.size) (by rw [<- HDS'.out]; exact HND.out) (by rw [<- HDS'.out]; exact fun x hx => by have := hlt1 x hx; omega) hdn (by
  intro x hx
  rcases List.mem_append.1 hx with hx | hx
  . exact hdd x hx
  . right; rw [List.mem_singleton.1 hx]; exact hbt)
 rw [<- HDS'.out] at hnds
 have hbw3 : Below w.heap.size w (w2.setCell ⟨g, i * 2 + 1, none⟩ (P bt)) := (HBW.out.trans (hb2.mono hws)).setCell hgw _
 have s3 : (w2.setCell ⟨g, i * 2 + 1, none⟩ (P bt)).cell? ⟨b', 4, none⟩ = some (.slice (some ⟨g, 0, none⟩) es.length c2') := by rw [o3.node.cell, HES.out]; rfl
 obtain ⟨W3, hW3⟩ : ∃ W3, W3 = w2.setCell ⟨g, i * 2 + 1, none⟩ (P bt) := ⟨_, rfl⟩
 have hw3s : W3.heap.size = w2.heap.size := by rw [hW3]; simp [World.setCell]
 rw [<- hW3] at o3 hbw3 s3
 unfold P at hW3
 rw [<- hW3]
 have MEND := zaa (zl6 (pk := up ok w.heap.size) (base := w.heap.size) (fun x hx => .inr hx) h b' pre post k (Tr.drop h c key) _ _ A1' (some ⟨g, 0, none⟩) c1' _ c2' W3 o3 (by rw [<- HES.out]; exact hn) HKID.out (by omega) hnds.1)
 rw [<- HI.out] at MEND
 have HBW3 := zaa hbw3
 have HNDS := zaa hnds.2
 clear hW3 o2 o3 hnds hdn hdd ht hb2 hb20 hS2 z1 z2 hg2 hbw3
 refine wpAnyH_done (by kernel_rfl) ?_ _
 go_wp2_with (go_at_call 120; go_loud (
  refine MEND.out.mono ?_
  rintro e w4 ⟨rfl, bs4, dss4, A4, n4, c4, o4, hb4, hn4, hd4⟩))
 go_ret
 have hb4s := hb4.size
 have hnd0 := HNDS.out
 refine ⟨b', dss4.flatten, rfl, zmb o4 (Nat.le_refl _), ?_, ?_, hgbb, HBW3.out.trans hb4⟩
 . refine List.nodup_append.2 ⟨hn4, by simp, fun a ha x hx e => ?_⟩
   rw [List.mem_singleton.1 hx] at e
   subst e
   rcases hd4 a ha with k | k
   . rcases hnd0 a k with k | k
     . have := hlt1 a k; omega
     . omega
   . omega
 . intro x hx
   rcases hd4 x hx with k | k
   . rcases hnd0 x k with k | k
     . exact .inl (HSUB.out x k)
     . exact .inr (by omega)
   . exact .inr (by omega)
set_option maxHeartbeats 1600000 in
theorem zpi (key v : Str) (b : Nat) (ds : List Nat) (w : World) (hf : FRep ok w (h + 1) t b ds) (hnd : ds.Nodup) (hes : Nd.es t = pre ++ (k, c) :: post) (hbl : below key (Nd.es t) = pre.length) (hn : (Nd.es t).length <= 400)
   (hkid : ∀ e ∈ pre ++ (k, Tr.put h c key v) :: post, zd2 h e.2 /\ e.1.size <= 15)
   (IH : ∀ (ok' : Nat -> Prop) (bc : Nat) (dc : List Nat) (w' : World), FRep ok' w' h c bc dc -> dc.Nodup -> Calls Tryz.prog 84 #[P bc, .agg #[.string key, .string v]] w' (zd3 ok' w' h (Tr.put h c key v) dc)) :
   Calls Tryz.prog 84 #[P b, .agg #[.string key, .string v]] w (zd3 ok w (h + 1) (Tr.put (h + 1) t key v) ds) := by
 have hbl0 : Below w.heap.size w (w.alloc (.cells #[.string key, .string v] 68)) := (Below.refl _ _).alloc (Nat.le_refl _) _
 have hf1 := hf.below hbl0 (fun _ h => h)
 have hbx : Blk (w.alloc (.cells #[.string key, .string v] 68)) w.heap.size 68 #[.string key, .string v] := Blk.new _ _ _
 obtain ⟨w0, hw0⟩ : ∃ w0, w0 = w.alloc (.cells #[.string key, .string v] 68) := ⟨_, rfl⟩
 rw [<- hw0] at hbl0 hf1 hbx
 have HBX := zaa hbx
 have HB0 := zaa hbl0
 have HW0 := zaa hw0
 clear hbx hbl0 hw0 hf
 obtain ⟨A1, c1, A2, c2, bs, dss, hnode, hb, hro, hk, hds⟩ := hf1
 have hbs := hk.len.1
 have HC := zaa (zfh b (Nd.blk t) (Nd.gen t) (Nd.dirty t) A1 0 c1 [] A2 (Nd.es t).length c2 (kcells (Nd.es t) bs) w0 hnode (fun u hu => by cases hu) (zb0 _ _) (by omega) (by omega))
 have hdr : Tr.put (h + 1) t key v = fresh (zbr h pre k (Tr.put h c key v) post) := by
  show fresh (za8 h key (Nd.es t) fun c => Tr.put h c key v) = _
  rw [hes] at hbl ⊢
  rw [zl9 _ hbl]
 rw [hdr]
 have hnd' : dss.flatten.Nodup := by rw [hds] at hnd; exact (List.nodup_append.1 hnd).1
 have hsub : ∀ x ∈ dss.flatten, x ∈ ds := fun x hx => by rw [hds]; exact List.mem_append_left _ hx
 have hblt := hb
 obtain ⟨es, hE⟩ : ∃ es, es = Nd.es t := ⟨_, rfl⟩
 rw [<- hE] at HC hes hbl hn hk hbs
 obtain ⟨i, hi⟩ : ∃ i, i = pre.length := ⟨_, rfl⟩
 have hil : i < es.length := by rw [hes, hi]; simp
 rw [<- hi] at hbl
 have HK := zaa hk
 have HIH := zaa IH
 have HKID := zaa hkid
 have HND := zaa hnd'
 have HSUB := zaa hsub
 have HES := zaa hes
 have HI := zaa hi
 have HBS := zaa hbs
 have HBL := zaa hbl
 clear hnode hro hds hb hk IH hkid hnd hnd' hsub hes hi hbs hbl hdr hE
 have k0 : (0 : Int) <= (i : Int) := by omega
 have k2 : (i : Int) < (es.length : Int) := by omega
 unfold P
 go_enter Tryz.func84, Tryz.ntmps84
 go_upto_region 9 with (first
  | (go_at_call 118; go_loud (
     rw [<- HW0.out]
     refine HC.out.mono ?_; rintro e w1 ⟨b', v1, v2, rfl, hb1, ho1, ho2, hbb, hbl⟩
     obtain ⟨A1', c1', rfl, hc1, ho1⟩ := zbf ho1
     obtain ⟨A2', c2', rfl, hc2, ho2⟩ := zbf ho2
     have o1 := zma HK.out hb1 ho1 ho2 hbb hbl
     have LEAF := zaa (zee b' 0 0 es.length c2' true _ A2' w1 hb1 (by omega) (Nat.le_trans hn (by omega)))
     have BELOW := zaa (zfs es bs key b' 0 0 c2' true _ A2' w1 hb1 (SlC.of_own ho2) HBS.out (by omega) (Nat.le_trans hn (by omega)))
     obtain ⟨g, cur, rfl, hbg, hgb, hgx, hgs, hgn, hgm⟩ := zcx ho2 (by omega)
     rw [HBL.out] at BELOW
     have hbx1 := HBX.out.below hbl HBX.out.lt
     have y1 : w1.cell? ⟨w.heap.size, 0, none⟩ = some (.string key) := by rw [hbx1.cell]; rfl
     have y2 : w1.cell? ⟨w.heap.size, 1, none⟩ = some (.string v) := by rw [hbx1.cell]; rfl
     have O1 := zaa o1
     have HBW := zaa hbl
     have HGB := zaa hgb
     have HGW := zaa hbg
     have e3 : w1.cell? ⟨b', 4, none⟩ = some (.slice (some ⟨g, 0, none⟩) es.length c2') := by rw [hb1.cell]; rfl
     clear hb1 ho1 ho2 hbl o1 hgb))
  | (go_at_call 81; go_loud (refine LEAF.out.mono ?_; rintro e w' ⟨rfl, rfl⟩))
  | (go_at_call 82; go_loud (refine BELOW.out.mono ?_; rintro e w' ⟨rfl, rfl⟩)))
 have o1 := O1.out
 have o1n := o1.len
 rw [HES.out] at o1
 obtain ⟨bp, bc, bq, dp, dc, dq, hbs', hds', l1, l2, r1, r2, r3⟩ := RepL.cut o1.kids
 rw [hbs'] at o1
 have hz1 := (o1.cells l1).2
 rw [<- HI.out] at hz1
 have g1 : w1.cell? ⟨g, i * 2 + 1, none⟩ = some (P bc) := hz1
 have hgl := HGB.out.lt
 have hbl := O1.out.node.lt
 have hndc : dc.Nodup := by
  have := HND.out
  rw [hds'] at this
  simp only [List.flatten_append, List.flatten_cons, List.nodup_append] at this
  exact this.2.1.1
 have CALL := zaa (HIH.out (fp (up ok w0.heap.size) b' (some ⟨g, 0, none⟩)) bc dc w1.drew (r2.below (Below.refl _ _).drew (fun _ hx => hx)) hndc)
 have OO := zaa o1
 have HBS' := zaa hbs'
 have HDS' := zaa hds'
 clear hz1 hbs' hds' r1 r2 r3 o1 hndc
 unfold P at g1 CALL
 refine wp_region_held_drew (S := fun w' => w'.cell? ⟨b', 4, none⟩ = some (.slice (some ⟨g, 0, none⟩) es.length c2')) (by kernel_rfl) e3 ?_
 intro hS0
 refine zac 0 (.pointer (some ⟨b', 0, none⟩)) (some 44) rfl rfl (.inl ⟨rfl, fun w' hSw => by go_simp⟩) hS0 ?_
 simp only [Act.put, n1, n2, n3]
 refine zac 1 (.pointer (some ⟨b', 0, none⟩)) (some 45) rfl rfl (.inl ⟨rfl, fun w' hSw => by clear hSw; go_simp⟩) hS0 ?_
 simp only [Act.put, n1, n2, n3]
 refine zac 2 (.pointer (some ⟨b', 4, none⟩)) (some 46) rfl rfl (.inl ⟨rfl, fun w' hSw => by clear hSw; go_simp⟩) hS0 ?_
 simp only [Act.put, n1, n2, n3]
 refine zac 3 (.slice (some ⟨g, 0, none⟩) es.length c2') (some 47) rfl rfl (.inl ⟨rfl, fun w' hSw => by go_simp⟩) hS0 ?_
 simp only [Act.put, n1, n2, n3]
 refine zac 4 (.int .i64 i) (some 48) rfl rfl (.inl ⟨rfl, fun w' hSw => by go_simp⟩) hS0 ?_
 simp only [Act.put, n1, n2, n3]
 refine zac 5 (.pointer (some ⟨b', 0, none⟩)) (some 49) rfl rfl (.inl ⟨rfl, fun w' hSw => by go_simp⟩) hS0 ?_
 simp only [Act.put, n1, n2, n3]
 refine zac 6 (.pointer (some ⟨b', 0, none⟩)) (some 50) rfl rfl (.inl ⟨rfl, fun w' hSw => by clear hSw; go_simp⟩) hS0 ?_
 simp only [Act.put, n1, n2, n3]
 refine zac 7 (.pointer (some ⟨b', 4, none⟩)) (some 51) rfl rfl (.inl ⟨rfl, fun w' hSw => by clear hSw; go_simp⟩) hS0 ?_
 simp only [Act.put, n1, n2, n3]
 refine zac 8 (.slice (some ⟨g, 0, none⟩) es.length c2') (some 52) rfl rfl (.inl ⟨rfl, fun w' hSw => by go_simp⟩) hS0 ?_
 simp only [Act.put, n1, n2, n3]
 refine zac 9 (.int .i64 i) (some 53) rfl rfl (.inl ⟨rfl, fun w' hSw => by go_simp⟩) hS0 ?_
 simp only [Act.put, n1, n2, n3]
 refine zac 10 (.pointer (some ⟨g, i * 2, none⟩)) (some 54) rfl rfl (.inl ⟨rfl, fun w' hSw => by clear hSw; go_simp⟩) hS0 ?_
 simp only [Act.put, n1, n2, n3]
 refine zac 11 (.pointer (some ⟨g, i * 2 + 1, none⟩)) (some 55) rfl rfl (.inl ⟨rfl, fun w' hSw => by clear hSw; go_simp⟩) hS0 ?_
 simp only [Act.put, n1, n2, n3]
 refine zew (i := 12) (j := 13) (vi := (.pointer (some ⟨bc, 0, none⟩))) (vj := (.agg #[.string key, .string v])) (w' := w1.drew) (some 56) (some 57) (by kernel_rfl) (by kernel_rfl) (by kernel_rfl) (by kernel_rfl) rfl rfl rfl rfl rfl rfl rfl rfl (by clear hS0; go_simp) (by clear hS0; go_simp) (by clear hS0; go_simp) (by clear hS0; go_simp) hS0 hS0 rfl ?_
 simp only [Act.put, List.setIfInBounds_toArray, List.set_cons_zero, List.set_cons_succ]
 refine zda (i := 14) (f := 84) (some 58) (by kernel_rfl) rfl rfl rfl (by first | (go_simp; done) | (go_simp; rfl)) (CALL.out) ?_
 rintro _ w2 ⟨bt, dt, rfl, ht, hdn, hdd, hbt, hb20⟩
 refine ⟨(.pointer (some ⟨bt, 0, none⟩)), rfl, ((((Below.refl _ _).drew.trans hb20 : Below w1.heap.size w1 w2)).cell hbl).trans e3, ?_⟩
 simp only [Act.put, n1, n2, n3]
 have hb2 : Below w1.heap.size w1 w2 := (Below.refl _ _).drew.trans hb20
 have hS2 := (hb2.cell hbl).trans e3
 refine zac 15 (.pointer (some ⟨g, i * 2, none⟩)) (some 59) rfl rfl (.inl ⟨rfl, fun w' hSw => by clear hSw; go_simp⟩) hS2 ?_
 simp only [Act.put, n1, n2, n3]
 refine zac 16 (.pointer (some ⟨g, i * 2 + 1, none⟩)) (some 60) rfl rfl (.inl ⟨rfl, fun w' hSw => by clear hSw; go_simp⟩) hS2 ?_
 simp only [Act.put, n1, n2, n3]
 have hg2 := HGB.out.below hb2 hgl
 have z1 : w2.frozen? ⟨g, i * 2 + 1, none⟩ = false := hg2.frozen _
 have z2 : w2.cell? ⟨g, i * 2 + 1, none⟩ = some (.pointer (some ⟨bc, 0, none⟩)) := (hb2.cell hgl).trans g1
 refine zaw (i := 17) (by kernel_rfl) rfl rfl ?_
 go_simp
 have hgbb := O1.out.hb
 have hb2s := hb2.size
 have hws := HBW.out.size
 have hgw := HGW.out
 have hjup : ∀ x, up (fp (up ok w0.heap.size) b' (some ⟨g, 0, none⟩)) w1.drew.heap.size x -> fp (up ok w0.heap.size) b' (some ⟨g, 0, none⟩) x := by
  rintro x (hx | hx)
  . exact hx
  . have h2 : w1.heap.size <= x := hx
    exact ⟨.inr (by omega), by omega, fun a ha => by injection ha with ha; subst ha; show x ≠ g; omega⟩
 have o2 := OO.out.below hb2
 have o3 := o2.setKid (ht.more hjup)
 rw [zdj _ _ _ _ _ l1, HDS'.out, zdj _ _ _ _ _ l2, <- HI.out] at o3
 have hlt1 : ∀ x ∈ dss.flatten, x < w0.heap.size := fun x hx => (HK.out.ds (fun _ _ _ hk => FRep.ds hk) x hx).2
 have hnds := zji (dp := dp) (dc := dc) (dt := dt ++ [bt]) (dq := dq) (B := w1.heap.size) (by rw [<- HDS'.out]; exact HND.out) (by rw [<- HDS'.out]; exact fun x hx => by have := hlt1 x hx; omega) hdn (by
  intro x hx
  rcases List.mem_append.1 hx with hx | hx
  . exact hdd x hx
  . right; rw [List.mem_singleton.1 hx]; exact hbt)
 rw [<- HDS'.out] at hnds
 have hbw3 : Below w0.heap.size w0 (w2.setCell ⟨g, i * 2 + 1, none⟩ (P bt)) := (HBW.out.trans (hb2.mono hws)).setCell hgw _
 have s3 : (w2.setCell ⟨g, i * 2 + 1, none⟩ (P bt)).cell? ⟨b', 4, none⟩ = some (.slice (some ⟨g, 0, none⟩) es.length c2') := by rw [o3.node.cell, HES.out]; rfl
 obtain ⟨W3, hW3⟩ : ∃ W3, W3 = w2.setCell ⟨g, i * 2 + 1, none⟩ (P bt) := ⟨_, rfl⟩
 have hw3s : W3.heap.size = w2.heap.size := by rw [hW3]; simp [World.setCell]
 rw [<- hW3] at o3 hbw3 s3
 unfold P at hW3
 rw [<- hW3]
 have MEND := zaa (zl6 (pk := up ok w0.heap.size) (base := w0.heap.size) (fun x hx => .inr hx) h b' pre post k (Tr.put h c key v) _ _ A1' (some ⟨g, 0, none⟩) c1' _ c2' W3 o3 (by rw [<- HES.out]; exact hn) HKID.out (by omega) hnds.1)
 rw [<- HI.out] at MEND
 have HBW3 := zaa hbw3
 have HNDS := zaa hnds.2
 clear hW3 o2 o3 hnds hdn hdd ht hb2 hb20 hS2 z1 z2 hg2 hbw3
 refine wpAnyH_done (by kernel_rfl) ?_ _
 go_wp2_with (go_at_call 120; go_loud (
  refine MEND.out.mono ?_
  rintro e w4 ⟨rfl, bs4, dss4, A4, n4, c4, o4, hb4, hn4, hd4⟩))
 go_ret
 have hb4s := hb4.size
 have hnd0 := HNDS.out
 have hb0s := HB0.out.size
 refine ⟨b', dss4.flatten, rfl, (zmb o4 (Nat.le_refl _)).more (fun x hx => hx.imp id (fun h => by omega)), ?_, ?_, by omega, HB0.out.trans ((HBW3.out.trans hb4).mono hb0s)⟩
 . refine List.nodup_append.2 ⟨hn4, by simp, fun a ha x hx e => ?_⟩
   rw [List.mem_singleton.1 hx] at e
   subst e
   rcases hd4 a ha with k | k
   . rcases hnd0 a k with k | k
     . have := hlt1 a k; omega
     . omega
   . omega
 . intro x hx
   rcases hd4 x hx with k | k
   . rcases hnd0 x k with k | k
     . exact .inl (HSUB.out x k)
     . exact .inr (by omega)
   . exact .inr (by omega)
end
theorem zue : ∀ (h : Nat) (lo : Str) (hi : Option Str) (n : Tr h), WF h lo hi n -> ElOk h n
 | 0, _, _, _, hw => zf7 hw
 | _ + 1, _, _, _, hw => fun e he => Nat.le_trans (zdp hw e he) (by omega)
theorem zef {h : Nat} {lo : Str} {hi : Option Str} {n : Tr h} (hw : WF h lo hi n) (ht : Top h n) (hp : (Tr.pairs h n).length <= 200) : zd2 h n := by
 obtain ⟨h1, h2, _⟩ := zed h lo hi n hw ht
 exact ⟨zue h lo hi n hw, .inl h1, by omega⟩
theorem zfa {h : Nat} {t : Tr (h + 1)} (ht : Top (h + 1) t) : ∀ e ∈ Nd.es t, Top h e.2 := by
 intro e he
 rcases ht with ⟨_, ht⟩ | ⟨x, hx, ht⟩
 . exact ((ht e he).rtl _ _).top _ _
 . rw [hx] at he
   rw [List.mem_singleton.1 he]
   exact ht
theorem zdv {h : Nat} {es : List (Str × Tr h)} : ∀ e ∈ es, (Tr.pairs h e.2).length <= (kpairs h es).length := by
 intro e he
 obtain ⟨A, B, rfl⟩ := List.append_of_mem he
 simp only [zbt, za9, List.length_append]
 omega
theorem zes {h : Nat} {lo : Str} {hi : Option Str} {es : List (Str × Tr h)} (hc : Chain (WF h) lo hi es) : ∀ e ∈ es, (∃ hi', WF h e.1 hi' e.2) /\ e.1.size <= 8 := by
 intro e he
 obtain ⟨A, B, rfl⟩ := List.append_of_mem he
 obtain ⟨k, c⟩ := e
 obtain ⟨h1, h2, _⟩ := zci hc
 exact ⟨⟨_, h1⟩, h2⟩
theorem drop_one : ∀ (h : Nat) (lo : Str) (hi : Option Str) (n : Tr h) (key : Str), WF h lo hi n -> slt key lo = false -> zbj hi key -> there key (Tr.pairs h n) = true -> Top h n -> (Tr.pairs h n).length = 1 -> zd2 h (Tr.drop h n key) /\ Tr.len h (Tr.drop h n key) <= 1
 | 0, lo, hi, n, key, hw, hk, hh, hth, ht, hp => by
   have hl := (zdt key (Nd.es n) (show LeafWF lo hi (Nd.es n) from hw).1 hth).1
   have hp' : (Nd.es n).length = 1 := hp
   have : Nd.es (Tr.drop 0 n key) = [] := List.eq_nil_of_length_eq_zero (by show (zby key (Nd.es n)).length = 0; omega)
   refine ⟨⟨fun e he => ?_, .inr rfl, ?_⟩, ?_⟩
   . rw [this] at he; cases he
   . show (Nd.es (Tr.drop 0 n key)).length <= 200; rw [this]; simp
   . show (Nd.es (Tr.drop 0 n key)).length <= 1; rw [this]; simp
 | h + 1, lo, hi, n, key, hw, hk, hh, hth, ht, hp => by
   rcases ht with ht | ⟨e, he, ht⟩
   . have := zq1 ht
     have : 1 <= 3 ^ h := Nat.one_le_pow _ _ (by omega)
     omega
   . have hw' : Chain (WF h) lo hi [e] := by rw [<- he]; exact hw
     have hpp : Tr.pairs (h + 1) n = Tr.pairs h e.2 := by
      show kpairs h (Nd.es n) = _
      rw [he]; simp [kpairs]
     obtain ⟨e1, e2, e3⟩ := hw'
     rcases e3 with ⟨_, hwe⟩ | ⟨_, _, _, _, hcx⟩
     . rw [hpp] at hth hp
       obtain ⟨i1, i2⟩ := drop_one h lo hi e.2 key hwe hk hh hth ht hp
       have hnf : Tr.full h (Tr.drop h e.2 key) = false := by
        have := i1.1.size
        unfold Tr.full
        exact decide_eq_false (by omega)
       have hon : za8 h key (Nd.es n) (fun c => Tr.drop h c key) = [(e.1, Tr.drop h e.2 key)] := by
        rw [he, zgm]
        unfold zbr
        have hfx : fix h e.1 (Tr.drop h e.2 key) = [(e.1, Tr.drop h e.2 key)] := by simp [fix, hnf]
        split <;> simp [hfx]
       have hes : Nd.es (Tr.drop (h + 1) n key) = [(e.1, Tr.drop h e.2 key)] := hon
       refine ⟨⟨fun x hx => ?_, .inl ?_, ?_⟩, ?_⟩
       . change x ∈ Nd.es (Tr.drop (h + 1) n key) at hx
         rw [hes] at hx
         rw [List.mem_singleton.1 hx]
         unfold ksz
         simp only
         omega
       . show 1 <= (Nd.es (Tr.drop (h + 1) n key)).length; rw [hes]; simp
       . show (Nd.es (Tr.drop (h + 1) n key)).length <= 200; rw [hes]; simp
       . show (Nd.es (Tr.drop (h + 1) n key)).length <= 1; rw [hes]; simp
     . exact hcx.elim
theorem zjj {h : Nat} {lo : Str} {hi : Option Str} {n : Tr h} {key : Str} (hw : WF h lo hi n) (hk : slt key lo = false) (hh : zbj hi key) (hth : there key (Tr.pairs h n) = true) (ht : Top h n) (hp : (Tr.pairs h n).length <= 150) : zd2 h (Tr.drop h n key) := by
 obtain ⟨f1, f2, _⟩ := zed h lo hi n hw ht
 by_cases h1 : (Tr.pairs h n).length = 1
 . exact (drop_one h lo hi n key hw hk hh hth ht h1).1
 . obtain ⟨d1, d2⟩ := zf8 h lo hi n key hw hk hh hth
   have hl := (zdt key (Tr.pairs h n) (zc3 h _ _ n hw).1 hth).1
   exact zef d1 ((zjb h lo hi n key hw hk hh hth).1 ht (by omega)) (by rw [d2]; omega)
theorem zoi : ∀ (h : Nat) (ok : Nat -> Prop) (lo : Str) (hi : Option Str) (t : Tr h) (key v : Str) (b : Nat) (ds : List Nat) (w : World), WF h lo hi t -> Top h t -> slt key lo = false -> zbj hi key -> zck key -> zdi v -> (Tr.pairs h t).length <= 150 -> FRep ok w h t b ds -> ds.Nodup ->
   Calls Tryz.prog 84 #[P b, .agg #[.string key, .string v]] w (zd3 ok w h (Tr.put h t key v) ds)
 | 0, ok, lo, hi, t, key, v, b, ds, w, hw, _, _, _, _, _, hp, hf, _ => zl8 t key v b ds w hf hw.1 (Nat.le_trans hp (by omega))
 | h + 1, ok, lo, hi, t, key, v, b, ds, w, hw, ht, hk, hh, h1, h2, hp, hf, hnd => by
   have hc0 : Chain (WF h) lo hi (Nd.es t) := hw
   obtain ⟨A, ⟨k, c⟩, B, hX, hl, h5, h6⟩ := zde hc0 hk
   have hc : Chain (WF h) lo hi (A ++ (k, c) :: B) := by rw [<- hX]; exact hc0
   obtain ⟨_, _, m3⟩ := zds hc h5 h6
   have hmem : ∀ e ∈ A ++ (k, c) :: B, zd2 h e.2 /\ e.1.size <= 15 := by
    intro e he
    obtain ⟨⟨hi', w1⟩, w2⟩ := zes hc e he
    have hp' : (kpairs h (A ++ (k, c) :: B)).length <= 150 := by rw [<- hX]; exact hp
    exact ⟨zef w1 (zfa ht e (by rw [hX]; exact he)) (by have := zdv e he; omega), by omega⟩
   have hpc : (Tr.pairs h c).length <= 150 := Nat.le_trans (zdv (es := A ++ (k, c) :: B) (k, c) (by simp)) (by show (kpairs h (A ++ (k, c) :: B)).length <= 150; rw [<- hX]; exact hp)
   have htc : Top h c := zfa ht (k, c) (by rw [hX]; simp)
   have hwc := (zci hc).1
   obtain ⟨p1, p2⟩ := zeq h k _ c key v hwc h5 (m3 hh) h1 h2
   have hlp := (zgl key v (Tr.pairs h c) (zc3 h _ _ c hwc).1).1
   have hfew := (zed (h + 1) lo hi t hw ht).2.1
   refine zpi (pre := A) (post := B) (k := k) (c := c) key v b ds w hf hnd hX hl (by have : (Nd.es t).length <= _ := hfew; omega) ?_ (fun ok' bc dc w' hf' hnd' => zoi h ok' k _ c key v bc dc w' hwc htc h5 (m3 hh) h1 h2 hpc hf' hnd')
   intro e he
   rcases List.mem_append.1 he with he | he
   . exact hmem e (by simp [he])
   . rcases List.mem_cons.1 he with rfl | he
     . exact ⟨zef p1 ((zja h k _ c key v hwc h5 (m3 hh) h1 h2).1 htc) (by rw [p2, hlp]; split <;> omega), (hmem (k, c) (by simp)).2⟩
     . exact hmem e (by simp [he])
theorem zmc : ∀ (h : Nat) (ok : Nat -> Prop) (lo : Str) (hi : Option Str) (t : Tr h) (key : Str) (b : Nat) (ds : List Nat) (w : World), WF h lo hi t -> Top h t -> slt key lo = false -> zbj hi key -> there key (Tr.pairs h t) = true -> (Tr.pairs h t).length <= 150 -> FRep ok w h t b ds -> ds.Nodup ->
   Calls Tryz.prog 80 #[P b, .string key] w (zd3 ok w h (Tr.drop h t key) ds)
 | 0, ok, lo, hi, t, key, b, ds, w, hw, _, _, _, hth, hp, hf, _ => zq6 t key b ds w hf hw.1 (Nat.le_trans hp (by omega)) hth
 | h + 1, ok, lo, hi, t, key, b, ds, w, hw, ht, hk, hh, hth, hp, hf, hnd => by
   have hc0 : Chain (WF h) lo hi (Nd.es t) := hw
   obtain ⟨A, ⟨k, c⟩, B, hX, hl, h5, h6⟩ := zde hc0 hk
   have hc : Chain (WF h) lo hi (A ++ (k, c) :: B) := by rw [<- hX]; exact hc0
   obtain ⟨_, _, m3⟩ := zds hc h5 h6
   have hmem : ∀ e ∈ A ++ (k, c) :: B, zd2 h e.2 /\ e.1.size <= 15 := by
    intro e he
    obtain ⟨⟨hi', w1⟩, w2⟩ := zes hc e he
    have hp' : (kpairs h (A ++ (k, c) :: B)).length <= 150 := by rw [<- hX]; exact hp
    exact ⟨zef w1 (zfa ht e (by rw [hX]; exact he)) (by have := zdv e he; omega), by omega⟩
   have hpc : (Tr.pairs h c).length <= 150 := Nat.le_trans (zdv (es := A ++ (k, c) :: B) (k, c) (by simp)) (by show (kpairs h (A ++ (k, c) :: B)).length <= 150; rw [<- hX]; exact hp)
   have htc : Top h c := zfa ht (k, c) (by rw [hX]; simp)
   have hwc := (zci hc).1
   have hthc : there key (Tr.pairs h c) = true := zkh hc h5 h6 (by rw [<- hX]; exact hth)
   have hfew := (zed (h + 1) lo hi t hw ht).2.1
   refine znr (pre := A) (post := B) (k := k) (c := c) key b ds w hf hnd hX hl (by have : (Nd.es t).length <= _ := hfew; omega) ?_ (fun ok' bc dc w' hf' hnd' => zmc h ok' k _ c key bc dc w' hwc htc h5 (m3 hh) hthc hpc hf' hnd')
   intro e he
   rcases List.mem_append.1 he with he | he
   . exact hmem e (by simp [he])
   . rcases List.mem_cons.1 he with rfl | he
     . exact ⟨zjj hwc h5 (m3 hh) hthc htc hpc, (hmem (k, c) (by simp)).2⟩
     . exact hmem e (by simp [he])
end Go.Proofs.YtemondlgcmpbbaaGreatDoor
namespace Go.Proofs.YtemondlgcmpbbaaGreatDoor
set_option maxRecDepth 100000
def Tr.from : (h : Nat) -> Tr h -> Str -> List (Str × Str)
 | 0, n, key => (Nd.es n).drop (place key (Nd.es n))
 | h + 1, n, key => ((Nd.es n).drop (below key (Nd.es n))).flatMap fun e => Tr.from h e.2 key
theorem zhj {α β : Type} {f g : α -> List β} {l : List α} (h : ∀ e ∈ l, f e = g e) : l.flatMap f = l.flatMap g := by
 induction l with
 | nil => rfl
 | cons a l ih => rw [List.flatMap_cons, List.flatMap_cons, h a (by simp), ih fun e he => h e (by simp [he])]
theorem zq7 {K : Type} {key : Str} {l : List (Str × K)} (h : ∀ e ∈ l, slt e.1 key = false) : place key l = 0 := by
 unfold place
 cases l with
 | nil => rfl
 | cons a l => rw [List.takeWhile_cons_of_neg (by simp [h a (by simp)])]; rfl
theorem zq8 {K : Type} {key : Str} {l : List (Str × K)} (h : ∀ e ∈ l.tail, slt key e.1 = true) : below key l = 0 := by
 unfold below
 cases ht : l.tail with
 | nil => rfl
 | cons a r =>
   rw [ht] at h
   rw [List.takeWhile_cons_of_neg (by simp [h a (by simp)])]; rfl
theorem zhk {K : Type} {W : Str -> Option Str -> K -> Prop} {lo : Str} {hi : Option Str} {X : List (Str × K)} (h : Chain W lo hi X) : ∀ e ∈ X.tail, slt lo e.1 = true := by
 induction X generalizing lo with
 | nil => intro e he; cases he
 | cons a X ih =>
   obtain ⟨h1, _, h3⟩ := h
   intro e he
   rcases h3 with ⟨rfl, _⟩ | ⟨k, hk, _, _, hc⟩
   . cases he
   . cases X with
     | nil => cases he
     | cons b X =>
       have hb : b.1 = k := hc.1
       rcases List.mem_cons.1 he with rfl | he
       . rw [hb]; exact hk
       . exact zbn hk (ih hc e he)
theorem zmd : ∀ (h : Nat) (lo : Str) (hi : Option Str) (n : Tr h) (key : Str), WF h lo hi n -> slt key lo = true -> Tr.from h n key = Tr.pairs h n
 | 0, lo, hi, n, key, hw, hk => by
   show (Nd.es n).drop (place key (Nd.es n)) = Nd.es n
   rw [zq7 fun e he => ?_, List.drop_zero]
   have := (hw.2 e he).1
   exact zbu (zbq hk this)
 | h + 1, lo, hi, n, key, hw, hk => by
   have hc : Chain (WF h) lo hi (Nd.es n) := hw
   show ((Nd.es n).drop (below key (Nd.es n))).flatMap (fun e => Tr.from h e.2 key) = (Nd.es n).flatMap fun e => Tr.pairs h e.2
   rw [zq8 fun e he => zbn hk (zhk hc e he), List.drop_zero]
   have : ∀ e ∈ Nd.es n, Tr.from h e.2 key = Tr.pairs h e.2 := by
    intro e he
    obtain ⟨⟨hi', w1⟩, _⟩ := zes hc e he
    refine zmd h e.1 hi' e.2 key w1 ?_
    cases hx : Nd.es n with
    | nil => rw [hx] at he; cases he
    | cons a X =>
      rw [hx] at he hc
      rcases List.mem_cons.1 he with rfl | he
      . rw [hc.1]; exact hk
      . exact zbn hk (zhk hc e he)
   exact zhj this
theorem zjk : ∀ (h : Nat) (lo : Str) (hi : Option Str) (n : Tr h) (key : Str), WF h lo hi n -> slt key lo = false -> Tr.from h n key = (Tr.pairs h n).drop (place key (Tr.pairs h n))
 | 0, _, _, _, _, _, _ => rfl
 | h + 1, lo, hi, n, key, hw, hk => by
   have hc0 : Chain (WF h) lo hi (Nd.es n) := hw
   obtain ⟨A, ⟨k, c⟩, B, hX, hl, h5, h6⟩ := zde hc0 hk
   have hc : Chain (WF h) lo hi (A ++ (k, c) :: B) := by rw [<- hX]; exact hc0
   obtain ⟨m1, m2, _⟩ := zds hc h5 h6
   show ((Nd.es n).drop (below key (Nd.es n))).flatMap (fun e => Tr.from h e.2 key) = (kpairs h (Nd.es n)).drop (place key (kpairs h (Nd.es n)))
   rw [hl, hX, List.drop_left, List.flatMap_cons, zbt, za9, <- List.append_assoc, zim key _ _ _ m1 m2, zjk h k _ c key (zci hc).1 h5]
   congr 1
   have : ∀ e ∈ B, Tr.from h e.2 key = Tr.pairs h e.2 := by
    intro e he
    obtain ⟨⟨hi', w1⟩, _⟩ := zes hc e (by simp [he])
    refine zmd h e.1 hi' e.2 key w1 ?_
    have hk2 : zbj (zch none B) key := h6
    obtain ⟨B1, B2, rfl⟩ := List.append_of_mem he
    cases B1 with
    | nil => exact hk2 _ rfl
    | cons b B1 =>
      have hb : slt key b.1 = true := hk2 _ rfl
      have hcb := (zc7 (A := A ++ [(k, c)]) (B := (b :: B1) ++ e :: B2) (by simpa using hc) (by simp) (by simp)).2.2.2
      exact zbn hb (zhk hcb e (by simp))
   exact zhj this
end Go.Proofs.YtemondlgcmpbbaaGreatDoor
