/- tree.put and tree.drop of a leaf. -/
import Derived.Test.YtemondlgcmpbbaaGreatDoorMC23
namespace Go.Proofs.YtemondlgcmpbbaaGreatDoor
open Go.RowKit

/-- What a change of a node at b comes to: a new node, that is not written yet, its dirty nodes' blocks ahead of its own. -/
def ChPost (ok : Nat → Prop) (w : World) (h : Nat) (t : Tr h) (ds : List Nat) : Ending → World → Prop := fun e w' =>
  ∃ b' ds', e = .returned (P b') ∧ FRep (up ok w.heap.size) w' h t b' (ds' ++ [b']) ∧ (ds' ++ [b']).Nodup ∧ (∀ x ∈ ds', x ∈ ds ∨ w.heap.size ≤ x) ∧ w.heap.size ≤ b' ∧ Below w.heap.size w w'

theorem pcells_set (es : List (Str × Str)) (key v : Str) : ∀ (i : Nat), i < es.length → ((pcells es).set (i * 2) (.string key)).set (i * 2 + 1) (.string v) = pcells (es.take i ++ (key, v) :: es.drop (i + 1)) := by
  induction es with
  | nil => intro i h; simp at h
  | cons e es ih =>
    intro i h
    cases i with
    | zero => simp [pcells]
    | succ i =>
      have := ih i (by simpa using h)
      simp only [pcells, List.flatMap_cons, List.cons_append, List.nil_append, List.take_succ_cons, List.drop_succ_cons, show (i + 1) * 2 = i * 2 + 1 + 1 by omega, List.set_cons_succ] at this ⊢
      rw [this]
theorem pcells_insert (es : List (Str × Str)) (key v : Str) : ∀ (i : Nat), i ≤ es.length → (pcells es).take (i * 2) ++ [.string key, .string v] ++ (pcells es).drop (i * 2) = pcells (es.take i ++ (key, v) :: es.drop i) := by
  induction es with
  | nil => intro i h; simp at h; subst h; simp [pcells]
  | cons e es ih =>
    intro i h
    cases i with
    | zero => simp [pcells]
    | succ i =>
      have := ih i (by simpa using h)
      simp only [pcells, List.flatMap_cons, List.cons_append, List.nil_append, List.take_succ_cons, List.drop_succ_cons, show (i + 1) * 2 = i * 2 + 1 + 1 by omega, List.append_assoc] at this ⊢
      rw [this]
theorem pcells_delete (es : List (Str × Str)) : ∀ (i : Nat), i < es.length → (pcells es).take (i * 2) ++ (pcells es).drop (i * 2 + 2) = pcells (es.take i ++ es.drop (i + 1)) := by
  induction es with
  | nil => intro i h; simp at h
  | cons e es ih =>
    intro i h
    cases i with
    | zero => simp [pcells]
    | succ i =>
      have := ih i (by simpa using h)
      simp only [pcells, List.flatMap_cons, List.cons_append, List.nil_append, List.take_succ_cons, List.drop_succ_cons, show (i + 1) * 2 = i * 2 + 1 + 1 by omega, show i * 2 + 1 + 1 + 2 = i * 2 + 2 + 1 + 1 by omega] at this ⊢
      rw [this]

theorem there_lt {K : Type} {key : Str} {es : List (Str × K)} (h : there key es = true) : place key es < es.length := by
  unfold there at h
  cases hd : es.drop (place key es) with
  | nil => rw [hd] at h; cases h
  | cons e r =>
    have := congrArg List.length hd
    simp only [List.length_drop, List.length_cons] at this
    omega

theorem delete_pair_own (base n c i : Nat) (A : Option Addr) (xs : List Value) (w : World) (hown : w.ownsRow base 68 2 (.slice A n c) n xs) (hi : i + 1 ≤ n) (hn : n ≤ 1000) (h1 : ∀ u ∈ xs, u.oneCell' = true) :
    Calls Tryz.prog 119 #[.slice A n c, .int .i64 i, .int .i64 (i + 1)] w fun e w' => e = .returned (.slice A (n - 1) c) ∧ w'.ownsRow base 68 2 (.slice A (n - 1) c) (n - 1) (xs.take (i * 2) ++ xs.drop (i * 2 + 2)) ∧ w.grownBy w' (Value.slice A n c).ownBlock := by
  obtain ⟨m, rfl⟩ : ∃ m, n = m + 1 := ⟨n - 1, by omega⟩
  have hl := hown.1
  obtain ⟨g, cur, rfl, hb, hg, hx, hcs, hnc, hcm⟩ := own_row hown (by omega)
  obtain ⟨L⟩ := cur
  have hx' : L.take ((m + 1) * 2) = xs := hx
  refine (delete_pair g m c i L w hg (by simpa using hcs) hnc (by omega) (by omega) (by rw [hx']; exact h1) hcm).mono ?_
  rintro e w' ⟨cur', rfl, hgr, _, hb', hlen, htk⟩
  refine ⟨rfl, ⟨?_, .inr ⟨g, c, cur'.toArray, rfl, hb, hb', by omega, hcm, by simpa using hlen, ?_⟩⟩, hgr⟩
  · simp only [List.length_append, List.length_take, List.length_drop]; omega
  · rw [hx'] at htk
    have h2 : L.take (i * 2) = xs.take (i * 2) := by rw [← hx', List.take_take, Nat.min_eq_left (by omega)]
    rw [h2] at htk
    simpa using htk

theorem own_ge {w : World} {base n : Nat} {T : TypeId} {v : Value} {xs : List Value} (h : w.ownsRow base T 2 v n xs) {g : Nat} (e : v.ownBlock = some g) : base ≤ g := by
  rcases h.2 with ⟨rfl, _⟩ | ⟨g', cap, cur, rfl, hb, _⟩
  · cases e
  · injection e with e
    subst e
    exact hb

set_option maxRecDepth 100000 in
set_option maxHeartbeats 1600000 in
theorem drop_leaf {ok : Nat → Prop} (t : Tr 0) (key : Str) (b : Nat) (ds : List Nat) (w : World) (hf : FRep ok w 0 t b ds) (hr : Rise (Nd.es t)) (hn : (Nd.es t).length ≤ 400) (hth : there key (Nd.es t) = true) :
    Calls Tryz.prog 80 #[P b, .string key] w (ChPost ok w 0 (Tr.drop 0 t key) ds) := by
  have hlt := there_lt hth
  obtain ⟨A1, c1, A2, c2, hnd, hb, hro, hds⟩ := hf
  have HC := hide (copy_any b (Nd.blk t) (Nd.gen t) (Nd.dirty t) A1 (Nd.es t).length c1 (pcells (Nd.es t)) A2 0 c2 [] w hnd (pcells_one _) (fun u hu => by cases hu) (by omega) (by omega))
  obtain ⟨es, hes⟩ : ∃ es, es = Nd.es t := ⟨_, rfl⟩
  have hdr : Tr.drop 0 t key = fresh (ldrop key es) := by rw [hes]; rfl
  rw [hdr]
  rw [← hes] at HC hr hn hlt hth
  obtain ⟨i, hi⟩ : ∃ i, i = place key es := ⟨_, rfl⟩
  rw [← hi] at hlt
  have HR := hide hr
  have HTH := hide hth
  have HI := hide hi
  clear hnd hro hds hb hr hth hi hes hdr
  have k0 : (0 : Int) ≤ (i : Int) := by omega
  have k1 : IntKind.i64.wrap ((i : Int) + 1) = (i : Int) + 1 := by rw [IntKind.wrap_i64]; omega
  unfold P
  go_enter Tryz.func80, Tryz.ntmps80
  go_wp2_with (first
    | (go_at_call 118; go_loud (
       refine HC.out.mono ?_; rintro e w1 ⟨b', v1, v2, rfl, hb1, ho1, ho2, hbb, hbl⟩
       obtain ⟨A1', c1', rfl, hc1, ho1⟩ := own_form ho1
       obtain ⟨A2', c2', rfl, hc2, ho2⟩ := own_form ho2
       have hrep : Rep w1 0 (fresh es : Nd Str) b' [b'] := (FRep.mk_leaf (ok := fun _ => True) rfl hb1 ho1 ho2 hbb (fun _ _ _ => trivial)).rep
       have LEAF := hide (leaf_yes b' 0 0 c2' true _ A2' w1 hb1)
       have PLACE := hide (place_any (fresh es : Nd Str) key b' [b'] w1 hrep HR.out (Nat.le_trans hn (by omega)))
       have HB1 := hide hb1
       have HO1 := hide ho1
       have HO2 := hide ho2
       have HBL := hide hbl
       clear hb1 ho1 ho2 hbl hrep))
    | (go_at_call 81; go_loud (refine LEAF.out.mono ?_; rintro e w' ⟨rfl, rfl⟩))
    | (go_at_call 83; go_loud (
       refine PLACE.out.mono ?_; rintro e w2 ⟨rfl, hb2⟩
       rw [show place key (Nd.es (fresh es : Nd Str)) = i from HI.out.symm, show there key (Nd.es (fresh es : Nd Str)) = true from HTH.out]
       have hx2 := HB1.out.below hb2 HB1.out.lt
       have e3 : w2.cell? ⟨b', 3, none⟩ = some (.slice A1' es.length c1') := by rw [hx2.cell]; rfl
       have HX2 := hide hx2
       have HB2 := hide hb2
       clear hb2 hx2))
    | (go_at_call 119; go_loud (
       refine (delete_pair_own w.heap.size es.length c1' i A1' (pcells es) _ (own_below HO1.out HB2.out) hlt (Nat.le_trans hn (by omega)) (pcells_one _)).mono ?_
       rintro e w3 ⟨rfl, ho3, hg3⟩
       have hx3 := HX2.out.grown hg3 (fun e => own_blk_ne (own_below HO1.out HB2.out) HX2.out (by decide) e.symm)
       have e5 : w3.cell? ⟨b', 3, none⟩ = some (.slice A1' es.length c1') := by rw [hx3.cell]; rfl
       have z3 : w3.frozen? ⟨b', 3, none⟩ = false := hx3.frozen 3
       have HX3 := hide hx3
       clear hx3)))
  go_ret
  have hb2s := HB2.out.size
  have hb1s := HBL.out.size
  have hg3s := hg3.size
  have hke := World.ownsRow.kept (own_below HO2.out HB2.out) hg3 (rows_ne (own_below HO2.out HB2.out) (own_below HO1.out HB2.out) (by decide))
  rw [pcells_delete es i hlt] at ho3
  have hld : ldrop key es = es.take i ++ es.drop (i + 1) := by unfold ldrop; rw [← HI.out]
  have hbl3 : Below w.heap.size w w3 := ((HBL.out.trans (HB2.out.mono hb1s)).trans (below_grown hg3 (fun g e => (own_ge HO1.out e)) (by omega)))
  refine ⟨b', [], rfl, ?_, by simp, (fun x hx => by cases hx), hbb, hbl3.setCell (p := ⟨b', 3, none⟩) hbb _⟩
  rw [hld]
  exact FRep.mk_leaf (base := w.heap.size) (es := es.take i ++ es.drop (i + 1)) (by simp only [List.length_append, List.length_take, List.length_drop]; omega) (HX3.out.set_ 3 (.slice A1' (es.length - 1) c1')) (ownsRow_setCell_other ho3 (own_blk_ne ho3 HX3.out (by decide)) _) (ownsRow_setCell_other hke (own_blk_ne hke HX3.out (by decide)) _) hbb (fun x hx _ => .inr hx)

set_option maxRecDepth 100000 in
set_option maxHeartbeats 1600000 in
theorem put_leaf {ok : Nat → Prop} (t : Tr 0) (key v : Str) (b : Nat) (ds : List Nat) (w : World) (hf : FRep ok w 0 t b ds) (hr : Rise (Nd.es t)) (hn : (Nd.es t).length ≤ 400) :
    Calls Tryz.prog 84 #[P b, .agg #[.string key, .string v]] w (ChPost ok w 0 (Tr.put 0 t key v) ds) := by
  have hbl0 : Below w.heap.size w (w.alloc (.cells #[.string key, .string v] 68)) := (Below.refl _ _).alloc (Nat.le_refl _) _
  have hf1 := hf.below hbl0 (fun _ h => h)
  have hbx : Blk (w.alloc (.cells #[.string key, .string v] 68)) w.heap.size 68 #[.string key, .string v] := Blk.new _ _ _
  obtain ⟨w0, hw0⟩ : ∃ w0, w0 = w.alloc (.cells #[.string key, .string v] 68) := ⟨_, rfl⟩
  rw [← hw0] at hbl0 hf1 hbx
  obtain ⟨A1, c1, A2, c2, hnd, hb, hro, hds⟩ := hf1
  have HC := hide (copy_any b (Nd.blk t) (Nd.gen t) (Nd.dirty t) A1 (Nd.es t).length c1 (pcells (Nd.es t)) A2 0 c2 [] w0 hnd (pcells_one _) (fun u hu => by cases hu) (by omega) (by omega))
  obtain ⟨es, hes⟩ : ∃ es, es = Nd.es t := ⟨_, rfl⟩
  have hdr : Tr.put 0 t key v = fresh (lput key v es) := by rw [hes]; rfl
  rw [hdr]
  rw [← hes] at HC hr hn
  have hle := place_le key es
  have hlt : there key es = true → place key es < es.length := there_lt
  obtain ⟨i, hi⟩ : ∃ i, i = place key es := ⟨_, rfl⟩
  obtain ⟨th, hth⟩ : ∃ th, th = there key es := ⟨_, rfl⟩
  rw [← hi] at hlt hle
  rw [← hth] at hlt
  have HR := hide hr
  have HTH := hide hth
  have HI := hide hi
  have HBX := hide hbx
  have HB0 := hide hbl0
  have HW0 := hide hw0
  clear hnd hro hds hb hr hth hi hes hdr hf hbx hbl0 hw0
  have k0 : (0 : Int) ≤ (i : Int) := by omega
  unfold P
  go_enter Tryz.func84, Tryz.ntmps84
  go_upto_if 20 with (first
    | (go_at_call 118; go_loud (
       rw [← HW0.out]
       refine HC.out.mono ?_; rintro e w1 ⟨b', v1, v2, rfl, hb1, ho1, ho2, hbb, hbl⟩
       obtain ⟨A1', c1', rfl, hc1, ho1⟩ := own_form ho1
       obtain ⟨A2', c2', rfl, hc2, ho2⟩ := own_form ho2
       have hrep : Rep w1 0 (fresh es : Nd Str) b' [b'] := (FRep.mk_leaf (ok := fun _ => True) rfl hb1 ho1 ho2 hbb (fun _ _ _ => trivial)).rep
       have hbx1 := HBX.out.below hbl HBX.out.lt
       have y1 : w1.cell? ⟨w.heap.size, 0, none⟩ = some (.string key) := by rw [hbx1.cell]; rfl
       have LEAF := hide (leaf_yes b' 0 0 c2' true _ A2' w1 hb1)
       have PLACE := hide (place_any (fresh es : Nd Str) key b' [b'] w1 hrep HR.out (Nat.le_trans hn (by omega)))
       have HB1 := hide hb1
       have HO1 := hide ho1
       have HO2 := hide ho2
       have HBL := hide hbl
       have HBX1 := hide hbx1
       clear hb1 ho1 ho2 hbl hrep hbx1))
    | (go_at_call 81; go_loud (refine LEAF.out.mono ?_; rintro e w' ⟨rfl, rfl⟩))
    | (go_at_call 83; go_loud (
       refine PLACE.out.mono ?_; rintro e w2 ⟨rfl, hb2⟩
       rw [show place key (Nd.es (fresh es : Nd Str)) = i from HI.out.symm, show there key (Nd.es (fresh es : Nd Str)) = th from HTH.out.symm]
       have hx2 := HB1.out.below hb2 HB1.out.lt
       have hbx2 := HBX1.out.below hb2 HBX1.out.lt
       have e3 : w2.cell? ⟨b', 3, none⟩ = some (.slice A1' es.length c1') := by rw [hx2.cell]; rfl
       have z3 : w2.frozen? ⟨b', 3, none⟩ = false := hx2.frozen 3
       have y2 : w2.cell? ⟨w.heap.size, 0, none⟩ = some (.string key) := by rw [hbx2.cell]; rfl
       have y3 : w2.cell? ⟨w.heap.size, 1, none⟩ = some (.string v) := by rw [hbx2.cell]; rfl
       have HX2 := hide hx2
       have HB2 := hide hb2
       clear hb2 hx2 hbx2)))
  have hb2s := HB2.out.size
  have hb1s := HBL.out.size
  have hb0s := HB0.out.size
  cases th with
  | true =>
    have hlt' := hlt rfl
    have ho1' := own_below HO1.out HB2.out
    obtain ⟨g, cur, rfl, hbg, hgb, hgx, hgs, hgn, hgm⟩ := own_row ho1' (by omega)
    have f1 : w2.frozen? ⟨g, i * 2, none⟩ = false := hgb.frozen _
    have f2 : w2.frozen? ⟨g, i * 2 + 1, none⟩ = false := hgb.frozen _
    have q1 : w2.cell? ⟨g, i * 2, none⟩ = cur[i * 2]? := by rw [hgb.cell]
    have q2 : w2.cell? ⟨g, i * 2 + 1, none⟩ = cur[i * 2 + 1]? := by rw [hgb.cell]
    rw [Array.getElem?_eq_getElem (by omega)] at q1 q2
    have k2 : (i : Int) < (es.length : Int) := by omega
    have HGB := hide hgb
    have HO1' := hide ho1'
    clear hgb ho1' hlt
    go_upto_region 5 with fail
    go_region
    go_wp2
    go_ret
    have hs1 := own_set (own_set HO1'.out (j := i * 2) (by omega) (.string key)) (j := i * 2 + 1) (by omega) (.string v)
    rw [pcells_set es key v i hlt'] at hs1
    have hke := ownsRow_setCell_other (a := ⟨g, i * 2, none⟩) (own_below HO2.out HB2.out) (own_blk_ne (own_below HO2.out HB2.out) HGB.out (by decide)) (.string key)
    have hke2 := ownsRow_setCell_other (a := ⟨g, i * 2 + 1, none⟩) hke (own_blk_ne (own_below HO2.out HB2.out) HGB.out (by decide)) (.string v)
    have hne : b' ≠ g := HX2.out.ne_ HGB.out (by decide)
    have hx4 := (HX2.out.far (p := ⟨g, i * 2, none⟩) hne (.string key)).far (p := ⟨g, i * 2 + 1, none⟩) hne (.string v)
    have hbl4 : Below w.heap.size w (((w2.setCell ⟨g, i * 2, none⟩ (.string key)).setCell ⟨g, i * 2 + 1, none⟩ (.string v)).drew) :=
      ((((HB0.out.trans (HBL.out.mono hb0s)).trans (HB2.out.mono (by omega))).setCell (p := ⟨g, i * 2, none⟩) (by simp only; omega) _).setCell (p := ⟨g, i * 2 + 1, none⟩) (by simp only; omega) _).drew
    have hld : lput key v es = es.take i ++ (key, v) :: es.drop (i + 1) := by unfold lput; rw [← HI.out, ← HTH.out]; rfl
    refine ⟨b', [], rfl, ?_, by simp, (fun x hx => by cases hx), by omega, hbl4⟩
    rw [hld]
    exact FRep.mk_leaf (base := w0.heap.size) (es := es.take i ++ (key, v) :: es.drop (i + 1)) (by simp only [List.length_append, List.length_take, List.length_drop, List.length_cons]; omega) hx4.drew (World.ownsRow.drew hs1) (World.ownsRow.drew hke2) hbb (fun x hx _ => .inr (by omega))
  | false =>
    have ho1' := own_below HO1.out HB2.out
    have HO1' := hide ho1'
    have KONE := hide (pcells_one es)
    have hone : ∀ u ∈ ([.string key, .string v] : List Value), u.oneCell' = true := by
      intro u hu
      simp only [List.mem_cons, List.not_mem_nil, or_false] at hu
      rcases hu with rfl | rfl <;> rfl
    have HONE := hide hone
    have ne3 : (Value.slice A1' es.length c1').ownBlock ≠ some w2.heap.size := by
      intro e
      rcases ho1'.2 with ⟨h0, _⟩ | ⟨g', cap, cur, hv, _, hg, _⟩
      · rw [h0] at e; cases e
      · rw [hv] at e
        injection e with e
        subst e
        exact absurd (Blk.lt (t := 68) hg) (by omega)
    have j1 := fun o1 => cell_alloc o1 e3
    clear ho1' hone hlt
    go_upto_region 6 with fail
    go_region_law (first
      | (go_simp; go_at_call 124
         refine (insert_pair w0.heap.size es.length i w2.heap.size A1' c1' (pcells es) (.string key) (.string v) _ (own_below HO1'.out (((Below.refl _ _).alloc (Nat.le_refl _) _).drew)) (Blk.new w2 _ _).drew ne3 hle (Nat.le_trans hn (by omega)) KONE.out HONE.out (by simp; omega) hc1).mono ?_
         rintro e w5 ⟨v5, rfl, ho5, hg5, hat5⟩
         obtain ⟨A5, c5, rfl, hc5, ho5⟩ := own_form ho5
         have s1 := ((HX2.out.below ((Below.refl _ _).alloc (Nat.le_refl _) (Obj.cells #[.string key, .string v] 68)) HX2.out.lt)).drew.grown hg5 (fun e => own_blk_ne HO1'.out HX2.out (by decide) e.symm)
         have s2 : w5.cell? ⟨b', 3, none⟩ = some (.slice A1' es.length c1') := by rw [s1.cell]; rfl
         have s3 : w5.frozen? ⟨b', 3, none⟩ = false := s1.frozen 3
         have S1 := hide s1
         clear s1))
    all_goals
      go_wp2
      go_ret
      rw [pcells_insert es key v i hle] at ho5
      have hal : Below w2.heap.size w2 (w2.alloc (Obj.cells #[.string key, .string v] 68)).drew := ((Below.refl w2.heap.size w2).alloc (Nat.le_refl _) _).drew
      have hke0 := own_below (own_below HO2.out HB2.out) hal
      have hke := World.ownsRow.kept hke0 hg5 (rows_ne hke0 (own_below HO1'.out hal) (by decide))
      have hld : lput key v es = es.take i ++ (key, v) :: es.drop i := by unfold lput; rw [← HI.out, ← HTH.out]; simp
      have hbl4 : Below w.heap.size w w5 := ((((HB0.out.trans (HBL.out.mono hb0s)).trans (HB2.out.mono (by omega))).trans (hal.mono (by omega))).trans (below_grown hg5 (fun g e => by have := own_ge HO1'.out e; omega) (by simp; omega)))
      have hw5s := hg5.size
      refine ⟨b', [], rfl, ?_, by simp, (fun x hx => by cases hx), by omega, hbl4.setCell (p := ⟨b', 3, none⟩) (by simp only; omega) _⟩
      rw [hld]
      exact FRep.mk_leaf (base := w0.heap.size) (es := es.take i ++ (key, v) :: es.drop i) (by simp only [List.length_append, List.length_take, List.length_drop, List.length_cons]; omega) (S1.out.set_ 3 (.slice A5 (es.length + 1) c5)) (ownsRow_setCell_other ho5 (own_blk_ne ho5 S1.out (by decide)) _) (ownsRow_setCell_other hke (own_blk_ne hke S1.out (by decide)) _) hbb (fun x hx _ => .inr (by omega))

end Go.Proofs.YtemondlgcmpbbaaGreatDoor
