/- Tree.Before. -/
import Derived.Test.YtemondlgcmpbbaaGreatDoorMV24
namespace Go.Proofs.YtemondlgcmpbbaaGreatDoor
open Go.RowKit
set_option maxRecDepth 100000
def Tr.bef : (h : Nat) -> Tr h -> Str -> Bool -> Option (Str × Str)
 | 0, n, key, all => ((Nd.es n).take (if all then (Nd.es n).length else place key (Nd.es n))).getLast?
 | h + 1, n, key, all => (((Nd.es n).take ((if all then (Nd.es n).length - 1 else below key (Nd.es n)) + 1)).reverse).findSome? fun e => Tr.bef h e.2 key all
def zcv (t : Tree) (key : Str) (all : Bool) : Option (Str × Str) := (t.pairs.take (if all then t.pairs.length else place key t.pairs)).getLast?
theorem zlf : ∀ (h : Nat) (lo : Str) (hi : Option Str) (n : Tr h) (key : Str) (all : Bool), WF h lo hi n -> Top h n -> (all = true \/ ∀ e ∈ Tr.pairs h n, slt e.1 key = true) -> Tr.bef h n key all = (Tr.pairs h n).getLast?
 | 0, lo, hi, n, key, all, hw, ht, ha => by
   show ((Nd.es n).take _).getLast? = (Nd.es n).getLast?
   have : (if all then (Nd.es n).length else place key (Nd.es n)) = (Nd.es n).length := by
    rcases ha with rfl | ha
    . rfl
    . have : place key (Nd.es n) = (Nd.es n).length := by
        have := zlr key (Nd.es n) [] (fun e he => ha e he)
        simpa [place] using this
      rw [this]; simp
   rw [this, List.take_length]
 | h + 1, lo, hi, n, key, all, hw, ht, ha => by
   have hc : Chain (WF h) lo hi (Nd.es n) := hw
   have hne : Nd.es n ≠ [] := zux hc
   obtain ⟨A, e, hx⟩ : ∃ A e, Nd.es n = A ++ [e] := ⟨_, _, (List.dropLast_concat_getLast hne).symm⟩
   have hlen : (Nd.es n).length = A.length + 1 := by rw [hx]; simp
   have hi0 : (if all then (Nd.es n).length - 1 else below key (Nd.es n)) = A.length := by
    rcases ha with rfl | ha
    . simp [hlen]
    . have hb : below key (Nd.es n) = A.length := by
        have hk : ∀ x ∈ Nd.es n, slt key x.1 = false := by
         intro x hxm
         obtain ⟨⟨hi', w1⟩, _⟩ := zc7 hc x hxm
         have hne' : Tr.pairs h x.2 ≠ [] := by
          have := (zdh h x.1 hi' x.2 w1 (zdj ht x hxm))
          intro h0
          rw [h0] at this
          simp at this
          omega
         obtain ⟨p, l, hp⟩ := List.exists_cons_of_ne_nil hne'
         have hpm : p ∈ Tr.pairs h x.2 := by rw [hp]; simp
         have h1 := ((zdd h x.1 hi' x.2 w1).2 p hpm).1
         have h2 : slt p.1 key = true := ha p (by show p ∈ kpairs h (Nd.es n); unfold kpairs; exact List.mem_flatMap.2 ⟨x, hxm, hpm⟩)
         exact zbt (zej h1 h2)
        unfold below
        have : ((Nd.es n).tail.takeWhile fun e => !slt key e.1) = (Nd.es n).tail := by
         have hall : ∀ e ∈ (Nd.es n).tail, (!slt key e.1) = true := fun e he => by rw [hk e (List.mem_of_mem_tail he)]; rfl
         have := zfk (fun e : Str × Tr h => !slt key e.1) (Nd.es n).tail [] hall
         simpa using this
        rw [this, List.length_tail, hlen]; simp
      cases all
      . exact hb
      . simp [hlen]
   show (((Nd.es n).take _).reverse).findSome? _ = (kpairs h (Nd.es n)).getLast?
   rw [hi0, <- hlen, List.take_length, hx]
   obtain ⟨⟨hi', w1⟩, _⟩ := zc7 hc e (by rw [hx]; simp)
   have htk := zdj ht e (by rw [hx]; simp)
   have hrec := zlf h e.1 hi' e.2 key all w1 htk (ha.imp id fun ha x hxm => ha x (by show x ∈ kpairs h (Nd.es n); unfold kpairs; exact List.mem_flatMap.2 ⟨e, by rw [hx]; simp, hxm⟩))
   have hne' : Tr.pairs h e.2 ≠ [] := by
    have := zdh h e.1 hi' e.2 w1 htk
    intro h0
    rw [h0] at this
    simp at this
    omega
   rw [List.reverse_append, List.reverse_singleton, List.singleton_append, List.findSome?_cons, hrec, zbl]
   have : kpairs h [e] = Tr.pairs h e.2 := by simp [kpairs]
   rw [this, List.getLast?_append]
   cases hg : (Tr.pairs h e.2).getLast? with
   | none => exact absurd (List.getLast?_eq_none_iff.1 hg) hne'
   | some x => simp
theorem zl8 : ∀ (h : Nat) (lo : Str) (hi : Option Str) (n : Tr h) (key : Str), WF h lo hi n -> Top h n -> slt key lo = false -> Tr.bef h n key false = ((Tr.pairs h n).take (place key (Tr.pairs h n))).getLast?
 | 0, _, _, _, _, _, _, _ => rfl
 | h + 1, lo, hi, n, key, hw, ht, hk => by
   have hc0 : Chain (WF h) lo hi (Nd.es n) := hw
   obtain ⟨A, ⟨k, c⟩, B, hX, hl, h5, h6⟩ := zdc hc0 hk
   have hc : Chain (WF h) lo hi (A ++ (k, c) :: B) := by rw [<- hX]; exact hc0
   obtain ⟨m1, m2, _⟩ := zdp hc h5 h6
   show (((Nd.es n).take (below key (Nd.es n) + 1)).reverse).findSome? _ = ((kpairs h (Nd.es n)).take (place key (kpairs h (Nd.es n)))).getLast?
   rw [hl, hX]
   have e1 : (A ++ (k, c) :: B).take (A.length + 1) = A ++ [(k, c)] := by
    rw [List.take_append, List.take_of_length_le (by omega)]; simp
   have htk := zdj ht (k, c) (by rw [hX]; simp)
   rw [e1, List.reverse_append, List.reverse_singleton, List.singleton_append, List.findSome?_cons, zl8 h k _ c key (zb0 hc).1 htk h5, zbl, zbf, <- List.append_assoc, zgo key _ _ _ m1 m2]
   have e2 : (kpairs h A ++ Tr.pairs h c ++ kpairs h B).take ((kpairs h A).length + place key (Tr.pairs h c)) = kpairs h A ++ (Tr.pairs h c).take (place key (Tr.pairs h c)) := by
    rw [List.append_assoc, List.take_append, List.take_of_length_le (by omega), Nat.add_sub_cancel_left, List.take_append, Nat.sub_eq_zero_of_le (zdb key _), List.take_zero, List.append_nil]
   rw [e2, List.getLast?_append]
   cases hg : ((Tr.pairs h c).take (place key (Tr.pairs h c))).getLast? with
   | some x => simp
   | none =>
     simp only [Option.none_or]
     cases hA : A.reverse with
     | nil =>
       have : A = [] := by simpa using hA
       subst this
       rfl
     | cons e R =>
       have hx : A = R.reverse ++ [e] := by
        have := congrArg List.reverse hA
        simpa using this
       subst hx
       obtain ⟨⟨hi', w1⟩, _⟩ := zc7 hc e (by simp)
       have htk' := zdj ht e (by rw [hX]; simp)
       have hrec := zlf h e.1 hi' e.2 key false w1 htk' (.inr fun x hxm => m1 x (by unfold kpairs; exact List.mem_flatMap.2 ⟨e, by simp, hxm⟩))
       have hne' : Tr.pairs h e.2 ≠ [] := by
        have := zdh h e.1 hi' e.2 w1 htk'
        intro h0
        rw [h0] at this
        simp at this
        omega
       rw [List.findSome?_cons, hrec, zbl]
       have : kpairs h [e] = Tr.pairs h e.2 := by simp [kpairs]
       rw [this, List.getLast?_append]
       cases hg' : (Tr.pairs h e.2).getLast? with
       | none => exact absurd (List.getLast?_eq_none_iff.1 hg') hne'
       | some x => simp
def ze1 (w : World) (r : Option (Str × Str)) : Ending -> World -> Prop := fun e w' => e = .returned (.tuple #[zao r, .bool r.isSome]) /\ Below w.heap.size w w'
theorem zti {w : World} {b blk gen : Nat} {d : Bool} {A1 A2 : Option Addr} {c1 c2 : Nat} {es : List (Str × Str)} {ys : List Value} {n2 : Nat} (h : NodeIs w b blk gen d A1 es.length c1 (pcells es) A2 n2 c2 ys) {j : Nat} (hj : j < es.length) :
   ∃ g o, A1 = some ⟨g, o, none⟩ /\ w.cell? ⟨g, o + j * 2, none⟩ = some (.string es[j].1) /\ w.cell? ⟨g, o + j * 2 + 1, none⟩ = some (.string es[j].2) /\ g < w.heap.size := by
 obtain ⟨g, o, u1, u2, hA, hu1, hu2, hc1, hc2, hgl⟩ := h.ps.cells_at (Below.refl w.heap.size w) hj
 have hp := zc6 es j hj
 have e1 := hu1.symm.trans hp.1
 have e2 := hu2.symm.trans hp.2
 injection e1 with e1
 injection e2 with e2
 subst e1; subst e2
 exact ⟨g, o, hA, hc1, hc2, hgl⟩
set_option maxHeartbeats 1600000 in
theorem zph (n : Tr 0) (key : Str) (all : Bool) (b : Nat) (ds : List Nat) (w : World) (hf : FRep (fun _ => True) w 0 n b ds) (hr : zct (Nd.es n)) (hn : (Nd.es n).length <= 400) :
   Calls Tryz.prog 107 #[P b, .string key, .bool all] w (ze1 w (Tr.bef 0 n key all)) := by
 have hb0 : Below w.heap.size w (w.alloc (.cells #[.string ⟨#[]⟩, .string ⟨#[]⟩] 68)) := (Below.refl _ _).alloc (Nat.le_refl _) _
 have hf1 := hf.below hb0 (fun _ h => h)
 obtain ⟨W, hW⟩ : ∃ W, W = w.alloc (.cells #[.string ⟨#[]⟩, .string ⟨#[]⟩] 68) := ⟨_, rfl⟩
 have hres : Blk W w.heap.size 68 #[.string ⟨#[]⟩, .string ⟨#[]⟩] := by rw [hW]; exact Blk.new _ _ _
 rw [<- hW] at hb0 hf1
 obtain ⟨A1, c1, A2, c2, hnd, hbn, hro, hds⟩ := hf1
 have LEAF := zaa (zdu b (Nd.blk n) (Nd.gen n) c2 (Nd.dirty n) _ A2 W hnd.node)
 have PLACE := zaa (zfe n key b _ W (show Rep W 0 n b ds from ⟨_, _, hnd.node, hnd.ps, hnd.ks, hds⟩) hr (Nat.le_trans hn (by omega)))
 obtain ⟨es, hes⟩ : ∃ es, es = Nd.es n := ⟨_, rfl⟩
 obtain ⟨r, hrr⟩ : ∃ r, r = Tr.bef 0 n key all := ⟨_, rfl⟩
 have hrd : r = (es.take (if all then es.length else place key es)).getLast? := by rw [hrr, hes]; rfl
 rw [<- hrr]
 rw [<- hes] at hnd PLACE hr hn
 have hc3 : W.cell? ⟨b, 3, none⟩ = some (.slice A1 es.length c1) := by rw [Blk.cell hnd.node]; rfl
 have hblt : b < W.heap.size := Blk.lt hnd.node
 have hpl := zdb key es
 have hat := fun j hj => zti hnd (j := j) hj
 obtain ⟨i, hi⟩ : ∃ i, i = place key es := ⟨_, rfl⟩
 obtain ⟨th, hth⟩ : ∃ th, th = there key es := ⟨_, rfl⟩
 rw [<- hi] at PLACE hpl hrd
 rw [<- hth] at PLACE
 obtain ⟨I, hI⟩ : ∃ I, I = if all then es.length else i := ⟨_, rfl⟩
 rw [<- hI] at hrd
 have hIl : I <= es.length := by rw [hI]; split <;> omega
 have HAT := zaa hat
 have HRES := zaa hres
 have HB := zaa hb0
 have HW := zaa hW
 have HRD := zaa hrd
 have HI := zaa hI
 clear hnd hro hds hat hi hth hr hes hres hb0 hW hrd hrr hI hf
 unfold P
 go_enter Tryz.func107, Tryz.ntmps107
 go_upto_region 3 with (first
  | (go_at_call 81; go_loud (rw [<- HW.out]; refine LEAF.out.mono ?_; rintro e w' ⟨rfl, rfl⟩))
  | (go_at_call 83; go_loud (
     refine PLACE.out.mono ?_; rintro e w2 ⟨rfl, hb2⟩
     have d3 : w2.cell? ⟨b, 3, none⟩ = some (.slice A1 es.length c1) := (hb2.cell hblt).trans hc3
     have HB2 := zaa hb2)))
 go_upto_if 21 with fail
 go_cut [8] (fun s8 wx => s8 = .int .i64 I /\ wx = w2)
 case first =>
  cases all with
  | true =>
    have e : I = es.length := HI.out
    go_wp2
    go_meet
    rw [e]; exact ⟨rfl, rfl⟩
  | false =>
    have e : I = i := HI.out
    go_wp2
    go_meet
    rw [e]; exact ⟨rfl, rfl⟩
 case rest =>
 obtain ⟨rfl, rfl⟩ := hcut
 have hsz := HB2.out.size
 have hres2 := HRES.out.below HB2.out HRES.out.lt
 have v0 : wc.cell? ⟨w.heap.size, 0, none⟩ = some (.string ⟨#[]⟩) := by rw [hres2.cell]; rfl
 have v1 : wc.cell? ⟨w.heap.size, 1, none⟩ = some (.string ⟨#[]⟩) := by rw [hres2.cell]; rfl
 have v2 : wc.frozen? ⟨w.heap.size, 0, none⟩ = false := hres2.frozen 0
 have v3 : wc.frozen? ⟨w.heap.size, 1, none⟩ = false := hres2.frozen 1
 have HR2 := zaa hres2
 have hbw : Below w.heap.size w wc := HB.out.trans (HB2.out.mono HB.out.size)
 have HBW := zaa hbw
 clear hres2 hbw
 have hfin : ∀ (s t : Str), Blk ((wc.setCell ⟨w.heap.size, 0, none⟩ (.string s)).setCell ⟨w.heap.size, 1, none⟩ (.string t)) w.heap.size 68 #[.string s, .string t] /\ Below w.heap.size w ((wc.setCell ⟨w.heap.size, 0, none⟩ (.string s)).setCell ⟨w.heap.size, 1, none⟩ (.string t)) := fun s t =>
  ⟨(HR2.out.set_ 0 _).set_ 1 _, (HBW.out.setCell (p := ⟨w.heap.size, 0, none⟩) (Nat.le_refl _) _).setCell (p := ⟨w.heap.size, 1, none⟩) (Nat.le_refl _) _⟩
 have HFIN := zaa hfin
 clear hfin
 by_cases h0 : I = 0
 . subst h0
   have hrn : r = none := by rw [HRD.out]; simp
   go_wp2
   obtain ⟨g1, g2⟩ := HFIN.out ⟨#[]⟩ ⟨#[]⟩
   obtain ⟨WE, hWE⟩ : ∃ WE, WE = (wc.setCell ⟨w.heap.size, 0, none⟩ (.string ⟨#[]⟩)).setCell ⟨w.heap.size, 1, none⟩ (.string ⟨#[]⟩) := ⟨_, rfl⟩
   rw [<- hWE] at g1 g2 ⊢
   have r0 : WE.cell? ⟨w.heap.size, 0, none⟩ = some (.string ⟨#[]⟩) := by rw [g1.cell]; rfl
   have r1 : WE.cell? ⟨w.heap.size, 1, none⟩ = some (.string ⟨#[]⟩) := by rw [g1.cell]; rfl
   rw [hrn]
   exact bodyPost_ret (v := .tuple #[.agg #[.string ⟨#[]⟩, .string ⟨#[]⟩], .bool false]) (by simp [results, Tryz.results107, go_sem, r0, r1]) rfl ⟨rfl, g2⟩
 . have hj : I - 1 < es.length := by omega
   obtain ⟨g, o, rfl, e1, e2, hgl⟩ := HAT.out (I - 1) hj
   have hrs : r = some es[I - 1] := by
    rw [HRD.out, List.getLast?_take, if_neg h0, List.getElem?_eq_getElem hj]; rfl
   obtain ⟨x, hx⟩ : ∃ x, x = es[I - 1] := ⟨_, rfl⟩
   rw [<- hx] at e1 e2 hrs
   obtain ⟨J, rfl⟩ : ∃ J, I = J + 1 := ⟨I - 1, by omega⟩
   rw [Nat.add_sub_cancel] at e1 e2
   have d1 : wc.cell? ⟨g, o + J * 2, none⟩ = some (.string x.1) := (HB2.out.cell hgl).trans e1
   have d2 : wc.cell? ⟨g, o + J * 2 + 1, none⟩ = some (.string x.2) := (HB2.out.cell hgl).trans e2
   have k0 : ¬ ((J + 1 : Nat) : Int) = 0 := by omega
   have k1 : IntKind.i64.wrap (((J + 1 : Nat) : Int) - 1) = (J : Int) := by rw [IntKind.wrap_i64]; omega
   have k2 : (0 : Int) <= (J : Int) := by omega
   have k3 : (J : Int) < (es.length : Int) := by omega
   have HX := zaa hx
   have HRS := zaa hrs
   clear hx hrs e1 e2
   go_wp2
   obtain ⟨g1, g2⟩ := HFIN.out x.1 x.2
   obtain ⟨WE, hWE⟩ : ∃ WE, WE = (wc.setCell ⟨w.heap.size, 0, none⟩ (.string x.1)).setCell ⟨w.heap.size, 1, none⟩ (.string x.2) := ⟨_, rfl⟩
   rw [<- hWE] at g1 g2 ⊢
   have r0 : WE.cell? ⟨w.heap.size, 0, none⟩ = some (.string x.1) := by rw [g1.cell]; rfl
   have r1 : WE.cell? ⟨w.heap.size, 1, none⟩ = some (.string x.2) := by rw [g1.cell]; rfl
   rw [HRS.out]
   exact bodyPost_ret (v := .tuple #[.agg #[.string x.1, .string x.2], .bool true]) (by simp [results, Tryz.results107, go_sem, r0, r1]) rfl ⟨rfl, g2⟩
def zx9 {h : Nat} (es : List (Str × Tr h)) (key : Str) (all : Bool) (r : Option (Str × Str)) (B : Nat) (W : World) (N : Nat) (k : Nat) (s : Value) (wr : World) : Prop :=
 k <= N /\ s = .int .i64 ((k : Int) - 1) /\ ((es.take k).reverse.findSome? fun e => Tr.bef h e.2 key all) = r /\ Blk wr B 68 #[.string ⟨#[]⟩, .string ⟨#[]⟩] /\ Below B W wr
set_option maxHeartbeats 1600000 in
theorem zmo {h : Nat} (n : Tr (h + 1)) (key : Str) (all : Bool) (b : Nat) (ds : List Nat) (w : World) (hf : FRep (fun z => z < w.heap.size) w (h + 1) n b ds) (h1 : 1 <= (Nd.es n).length) (hn : (Nd.es n).length <= 400)
   (IH : ∀ e ∈ Nd.es n, ∀ (bc : Nat) (dc : List Nat) (w' : World), FRep (fun _ => True) w' h e.2 bc dc -> Calls Tryz.prog 107 #[P bc, .string key, .bool all] w' (ze1 w' (Tr.bef h e.2 key all))) :
   Calls Tryz.prog 107 #[P b, .string key, .bool all] w (ze1 w (Tr.bef (h + 1) n key all)) := by
 have hb0 : Below w.heap.size w (w.alloc (.cells #[.string ⟨#[]⟩, .string ⟨#[]⟩] 68)) := (Below.refl _ _).alloc (Nat.le_refl _) _
 have hf1 := hf.below hb0 (fun _ h => h)
 obtain ⟨W, hW⟩ : ∃ W, W = w.alloc (.cells #[.string ⟨#[]⟩, .string ⟨#[]⟩] 68) := ⟨_, rfl⟩
 have hres : Blk W w.heap.size 68 #[.string ⟨#[]⟩, .string ⟨#[]⟩] := by rw [hW]; exact Blk.new _ _ _
 rw [<- hW] at hb0 hf1
 obtain ⟨A1, c1, A2, c2, bs, dss, hnd, hbn, hro, hkk, hds⟩ := hf1
 have hbb := zh9 key (Nd.es n) h1
 have hbsl := hkk.len.1
 have hdsl := hkk.len.2
 have LEAF := zaa (zed b (Nd.blk n) (Nd.gen n) (Nd.es n).length c2 (Nd.dirty n) _ A2 W hnd.node h1 (by omega))
 have BELOW := zaa (zfd (Nd.es n) bs key b (Nd.blk n) (Nd.gen n) c2 (Nd.dirty n) _ A2 W hnd.node hnd.ks hbsl h1 (by omega))
 obtain ⟨r, hrr⟩ : ∃ r, r = Tr.bef (h + 1) n key all := ⟨_, rfl⟩
 have hrd : (((Nd.es n).take ((if all then (Nd.es n).length - 1 else below key (Nd.es n)) + 1)).reverse).findSome? (fun e => Tr.bef h e.2 key all) = r := by rw [hrr]; rfl
 rw [<- hrr]
 obtain ⟨es, hes⟩ : ∃ es, es = Nd.es n := ⟨_, rfl⟩
 rw [<- hes] at hnd hkk BELOW h1 hn hro hbb hbsl hdsl IH hrd
 have hat : ∀ wr, Below w.heap.size W wr -> ∀ j (hj : j < es.length), ∃ g o, A2 = some ⟨g, o, none⟩ /\ wr.cell? ⟨g, o + j * 2 + 1, none⟩ = some (P (bs[j]'(by omega))) /\ FRep (fun _ => True) wr h es[j].2 (bs[j]'(by omega)) (dss[j]'(by omega)) := by
  intro wr hb j hj
  obtain ⟨g, o, u1, u2, hA, hu1, hu2, hc1, hc2, hgl⟩ := hnd.ks.cells_at (Below.refl W.heap.size W) hj
  have hp := zcp es bs j hj (by omega)
  have e2 := hu2.symm.trans hp.2
  injection e2 with e2
  subst e2
  have hg0 : g < w.heap.size := hro (by omega) _ hA
  exact ⟨g, o, hA, (hb.cell (p := ⟨g, o + j * 2 + 1, none⟩) hg0).trans hc2, (hkk.at_ j hj (by omega) (by omega)).move (Agree.of_below hb (fun _ hx => hx)) (fun _ _ => trivial)⟩
 obtain ⟨g, o, hA, -, -⟩ := hat W (Below.refl _ _) 0 (by omega)
 subst hA
 have hc4 : W.cell? ⟨b, 4, none⟩ = some (.slice (some ⟨g, o, none⟩) es.length c2) := by rw [Blk.cell hnd.node]; rfl
 have hblt : b < W.heap.size := Blk.lt hnd.node
 obtain ⟨i, hi⟩ : ∃ i, i = below key es := ⟨_, rfl⟩
 rw [<- hi] at BELOW hbb hrd
 obtain ⟨I, hI⟩ : ∃ I, I = if all then es.length - 1 else i := ⟨_, rfl⟩
 rw [<- hI] at hrd
 have hIl : I < es.length := by rw [hI]; split <;> omega
 have k0 : IntKind.i64.wrap ((es.length : Int) - 1) = ((es.length - 1 : Nat) : Int) := by rw [IntKind.wrap_i64]; omega
 have HAT := zaa hat
 have HIH := zaa IH
 have HRES := zaa hres
 have HB := zaa hb0
 have HW := zaa hW
 have HRD := zaa hrd
 have HI := zaa hI
 clear hnd hkk hro hds hat IH hi hes hres hb0 hW hrd hrr hI hf
 unfold P
 unfold P at LEAF BELOW
 go_enter Tryz.func107, Tryz.ntmps107
 go_upto_if 45 with (first
  | (go_at_call 81; go_loud (rw [<- HW.out]; refine LEAF.out.mono ?_; rintro e w' ⟨rfl, rfl⟩)))
 go_cut [10] (fun s10 wx => s10 = .int .i64 (I : Int) /\ wx = W)
 case first =>
  cases all with
  | true =>
    have e : I = es.length - 1 := HI.out
    go_wp2
    go_meet
    rw [e]; exact ⟨rfl, rfl⟩
  | false =>
    have e : I = i := HI.out
    go_wp2_with (go_at_call 82; go_loud (refine BELOW.out.mono ?_; rintro e w' ⟨rfl, rfl⟩))
    go_meet
    rw [e]; exact ⟨rfl, rfl⟩
 case rest =>
 obtain ⟨rfl, rfl⟩ := hcut
 go_wp2
 go_loopg [10] (I + 1) (fun k s wr => zx9 es key all r w.heap.size wc (I + 1) k s wr)
 case atStart => exact ⟨Nat.le_refl _, by simp, HRD.out, HRES.out, Below.refl _ _⟩
 case round =>
  obtain ⟨hk, rfl, hr, hres, hb⟩ := hrel
  have v0 : wr.cell? ⟨w.heap.size, 0, none⟩ = some (.string ⟨#[]⟩) := by rw [hres.cell]; rfl
  have v1 : wr.cell? ⟨w.heap.size, 1, none⟩ = some (.string ⟨#[]⟩) := by rw [hres.cell]; rfl
  have v2 : wr.frozen? ⟨w.heap.size, 0, none⟩ = false := hres.frozen 0
  have v3 : wr.frozen? ⟨w.heap.size, 1, none⟩ = false := hres.frozen 1
  have hszr : w.heap.size <= wr.heap.size := Nat.le_trans HB.out.size hb.size
  cases gk with
  | zero =>
    have hrn : r = none := by rw [<- hr]; simp
    have k1 : ¬ (0 : Int) <= ((0 : Nat) : Int) - 1 := by omega
    have HRES2 := zaa hres
    have HBR := zaa hb
    clear hres hb hr
    go_wp2
    have g1 := (HRES2.out.set_ 0 (.string ⟨#[]⟩)).set_ 1 (.string ⟨#[]⟩)
    have g2 : Below w.heap.size w ((wr.setCell ⟨w.heap.size, 0, none⟩ (.string ⟨#[]⟩)).setCell ⟨w.heap.size, 1, none⟩ (.string ⟨#[]⟩)) := ((HB.out.trans HBR.out).setCell (p := ⟨w.heap.size, 0, none⟩) (Nat.le_refl _) _).setCell (p := ⟨w.heap.size, 1, none⟩) (Nat.le_refl _) _
    obtain ⟨WE, hWE⟩ : ∃ WE, WE = (wr.setCell ⟨w.heap.size, 0, none⟩ (.string ⟨#[]⟩)).setCell ⟨w.heap.size, 1, none⟩ (.string ⟨#[]⟩) := ⟨_, rfl⟩
    rw [<- hWE] at g1 g2 ⊢
    have r0 : WE.cell? ⟨w.heap.size, 0, none⟩ = some (.string ⟨#[]⟩) := by rw [g1.cell]; rfl
    have r1 : WE.cell? ⟨w.heap.size, 1, none⟩ = some (.string ⟨#[]⟩) := by rw [g1.cell]; rfl
    try rw [hrn]
    exact bodyPost_ret (v := .tuple #[.agg #[.string ⟨#[]⟩, .string ⟨#[]⟩], .bool false]) (by simp [results, Tryz.results107, go_sem, r0, r1]) rfl ⟨rfl, g2⟩
  | succ k =>
    have hkl : k < es.length := by omega
    obtain ⟨g', o', e1, e2, hfk⟩ := HAT.out wr hb k hkl
    injection e1 with e1
    injection e1 with e1 e4
    subst e1; subst e4
    have d4 : wr.cell? ⟨b, 4, none⟩ = some (.slice (some ⟨g, o, none⟩) es.length c2) := (hb.cell (p := ⟨b, 4, none⟩) hbn).trans hc4
    obtain ⟨x, hx⟩ : ∃ x, x = es[k] := ⟨_, rfl⟩
    obtain ⟨bc, hbc⟩ : ∃ bc, bc = bs[k]'(by omega) := ⟨_, rfl⟩
    rw [<- hx] at hfk
    rw [<- hbc] at e2 hfk
    have YC := zaa (HIH.out x (by rw [hx]; exact List.getElem_mem _) bc _ _ hfk)
    have m0 : (0 : Int) <= (k : Int) := by omega
    have m1 : (k : Int) < (es.length : Int) := by omega
    have m2 : ((k + 1 : Nat) : Int) - 1 = (k : Int) := by omega
    have m3 : IntKind.i64.wrap ((k : Int) - 1) = (k : Int) - 1 := by rw [IntKind.wrap_i64]; omega
    rw [m2]
    have hr2 : (Tr.bef h x.2 key all).or ((es.take k).reverse.findSome? fun e => Tr.bef h e.2 key all) = r := by
     rw [<- hr, zif hkl, List.reverse_append, List.reverse_singleton, List.singleton_append, List.findSome?_cons, <- hx]
     cases Tr.bef h x.2 key all <;> rfl
    obtain ⟨rx, hrx⟩ : ∃ rx, rx = Tr.bef h x.2 key all := ⟨_, rfl⟩
    rw [<- hrx] at YC hr2
    have HR2 := zaa hr2
    have HRES2 := zaa hres
    have HBR := zaa hb
    clear hres hb hr hr2 hx hbc hrx hfk
    unfold P at e2 YC
    cases rx with
    | none =>
      go_wp2_with (go_at_call 107; go_loud (
       refine YC.out.mono ?_; rintro e w3 ⟨rfl, hb3⟩
       unfold zao))
      go_roundg k
      case measure => omega
      case rel =>
       refine ⟨by omega, rfl, HR2.out, (HRES2.out.below hb3 HRES2.out.lt).alloc _, (HBR.out.trans (hb3.mono hszr)).alloc ?_ _⟩
       exact Nat.le_trans hszr hb3.size
    | some y =>
      have hry : r = some y := HR2.out.symm
      go_wp2_with (go_at_call 107; go_loud (
       refine YC.out.mono ?_; rintro e w3 ⟨rfl, hb3⟩
       unfold zao
       have hres3 := HRES2.out.below hb3 HRES2.out.lt
       have t0 := fun o1 => za1 o1 (show w3.cell? ⟨w.heap.size, 0, none⟩ = some (.string ⟨#[]⟩) by rw [hres3.cell]; rfl)
       have t1 := fun o1 => za1 o1 (show w3.cell? ⟨w.heap.size, 1, none⟩ = some (.string ⟨#[]⟩) by rw [hres3.cell]; rfl)
       have t2 : ∀ o1, (w3.alloc o1).frozen? ⟨w.heap.size, 0, none⟩ = false := fun o1 => (hres3.alloc o1).frozen 0
       have t3 : ∀ o1, (w3.alloc o1).frozen? ⟨w.heap.size, 1, none⟩ = false := fun o1 => (hres3.alloc o1).frozen 1
       have HRES3 := zaa hres3
       clear hres3))
      have hsz3 := hb3.size
      obtain ⟨W4, hW4⟩ : ∃ W4, W4 = w3.alloc (.cells #[.string y.1, .string y.2] 68) := ⟨_, rfl⟩
      have g1 := ((HRES3.out.alloc (.cells #[.string y.1, .string y.2] 68)).set_ 0 (.string y.1)).set_ 1 (.string y.2)
      have g2 : Below w.heap.size w (((w3.alloc (.cells #[.string y.1, .string y.2] 68)).setCell ⟨w.heap.size, 0, none⟩ (.string y.1)).setCell ⟨w.heap.size, 1, none⟩ (.string y.2)) :=
       ((((HB.out.trans HBR.out).trans (hb3.mono hszr)).alloc (Nat.le_trans hszr hsz3) _).setCell (p := ⟨w.heap.size, 0, none⟩) (Nat.le_refl _) _).setCell (p := ⟨w.heap.size, 1, none⟩) (Nat.le_refl _) _
      obtain ⟨WE, hWE⟩ : ∃ WE, WE = (((w3.alloc (.cells #[.string y.1, .string y.2] 68)).setCell ⟨w.heap.size, 0, none⟩ (.string y.1)).setCell ⟨w.heap.size, 1, none⟩ (.string y.2)) := ⟨_, rfl⟩
      have e1 : rK (some y) = y.1 := rfl
      have e2 : rV (some y) = y.2 := rfl
      rw [e1, e2] at *
      rw [<- hWE] at g1 g2 ⊢
      have r0 : WE.cell? ⟨w.heap.size, 0, none⟩ = some (.string y.1) := by rw [g1.cell]; rfl
      have r1 : WE.cell? ⟨w.heap.size, 1, none⟩ = some (.string y.2) := by rw [g1.cell]; rfl
      try rw [hry]
      exact bodyPost_ret (v := .tuple #[.agg #[.string y.1, .string y.2], .bool true]) (by simp [results, Tryz.results107, go_sem, r0, r1]) rfl ⟨rfl, g2⟩
theorem zks : ∀ (h : Nat) (lo : Str) (hi : Option Str) (n : Tr h) (key : Str) (all : Bool) (b : Nat) (ds : List Nat) (w : World), WF h lo hi n -> Top h n -> (Tr.pairs h n).length <= 150 -> FRep (fun _ => True) w h n b ds ->
   Calls Tryz.prog 107 #[P b, .string key, .bool all] w (ze1 w (Tr.bef h n key all))
 | 0, lo, hi, n, key, all, b, ds, w, hw, ht, hp, hf => zph n key all b ds w hf hw.1 (Nat.le_trans hp (by omega))
 | h + 1, lo, hi, n, key, all, b, ds, w, hw, ht, hp, hf => by
   obtain ⟨f1, f2, _⟩ := zdh (h + 1) lo hi n hw ht
   refine zmo n key all b ds w (hf.lt.more fun _ hx => hx.2) f1 (Nat.le_trans f2 (by omega)) ?_
   intro e he bc dc w' hf'
   obtain ⟨⟨hi', w1⟩, _⟩ := zc7 (show Chain (WF h) lo hi (Nd.es n) from hw) e he
   exact zks h e.1 hi' e.2 key all bc dc w' w1 (zdj ht e he) (Nat.le_trans (zdv (es := Nd.es n) e he) hp) hf'
set_option maxHeartbeats 1600000 in
theorem zjb {ok : Nat -> Prop} (t : Tree) (rp : Value) (ds : List Nat) (key : Str) (all : Bool) (w : World) (hv : TreeV ok w t rp ds) (ht : TR t) (hp : t.pairs.length <= 150) :
   Calls Tryz.prog 72 #[zav rp t.keys, .string key, .bool all] w (ze1 w (zcv t key all)) := by
 have hb0 : Below w.heap.size w ((w.alloc (.cells #[rp, .int .i64 t.keys] 88)).alloc (.cells #[.string ⟨#[]⟩, .string ⟨#[]⟩] 68)) := ((Below.refl _ _).alloc (Nat.le_refl _) _).alloc (by simp) _
 obtain ⟨W, hW⟩ : ∃ W, W = (w.alloc (.cells #[rp, .int .i64 t.keys] 88)).alloc (.cells #[.string ⟨#[]⟩, .string ⟨#[]⟩] 68) := ⟨_, rfl⟩
 rw [<- hW] at hb0
 have hx : Blk W w.heap.size 88 #[rp, .int .i64 t.keys] := by rw [hW]; exact (Blk.new _ _ _).alloc _
 have hr : Blk W (w.heap.size + 1) 68 #[.string ⟨#[]⟩, .string ⟨#[]⟩] := by rw [hW]; exact Blk.new2 _ _ _ _
 unfold zav
 rcases hv with ⟨hroot, rfl, rfl⟩ | ⟨h, n, b, hroot, rfl, hf⟩
 . have hbk : zcv t key all = none := by unfold zcv Tree.pairs; rw [hroot]; simp
   rw [hbk]
   subst hW
   go_enter Tryz.func72, Tryz.ntmps72
   go_wp2
   obtain ⟨WE, hWE⟩ : ∃ WE, WE = ((w.alloc (.cells #[.pointer none, .int .i64 t.keys] 88)).alloc (.cells #[.string ⟨#[]⟩, .string ⟨#[]⟩] 68)) := ⟨_, rfl⟩
   rw [<- hWE] at hr hb0 ⊢
   have r0 : WE.cell? ⟨w.heap.size + 1, 0, none⟩ = some (.string ⟨#[]⟩) := by rw [hr.cell]; rfl
   have r1 : WE.cell? ⟨w.heap.size + 1, 1, none⟩ = some (.string ⟨#[]⟩) := by rw [hr.cell]; rfl
   exact bodyPost_ret (v := .tuple #[.agg #[.string ⟨#[]⟩, .string ⟨#[]⟩], .bool false]) (by simp [results, Tryz.results72, go_sem, r0, r1]) rfl ⟨rfl, hb0⟩
 . have hbk : zcv t key all = Tr.bef h n key all := by
     have hpp : t.pairs = Tr.pairs h n := by unfold Tree.pairs; rw [hroot]
     unfold zcv
     rw [hpp]
     cases all with
     | true => rw [zlf h zba none n key true (ht.tw.some_ h n hroot) (ht.top h n hroot) (.inl rfl)]; simp
     | false => rw [zl8 h zba none n key (ht.tw.some_ h n hroot) (ht.top h n hroot) (za3 key)]; rfl
   rw [hbk]
   have hpp : t.pairs = Tr.pairs h n := by unfold Tree.pairs; rw [hroot]
   have HB := zaa (zks h zba none n key all b ds W (ht.tw.some_ h n hroot) (ht.top h n hroot) (by rw [<- hpp]; exact hp) (hf.below hb0 (fun _ _ => trivial)))
   have HX := zaa hx
   have HR := zaa hr
   have HB0 := zaa hb0
   have HW := zaa hW
   obtain ⟨r, hrr⟩ : ∃ r, r = Tr.bef h n key all := ⟨_, rfl⟩
   rw [<- hrr] at HB ⊢
   clear hf hx hr hb0 hW hp ht hbk hpp hroot hrr
   unfold P
   unfold P at HB
   go_enter Tryz.func72, Tryz.ntmps72
   go_wp2_with (go_at_call 107; go_loud (
    rw [<- HW.out]
    refine HB.out.mono ?_; rintro e w3 ⟨rfl, hb3⟩
    unfold zao
    have hres3 := HR.out.below hb3 HR.out.lt
    have t0 : w3.cell? ⟨w.heap.size + 1, 0, none⟩ = some (.string ⟨#[]⟩) := by rw [hres3.cell]; rfl
    have t1 : w3.cell? ⟨w.heap.size + 1, 1, none⟩ = some (.string ⟨#[]⟩) := by rw [hres3.cell]; rfl
    have t2 : w3.frozen? ⟨w.heap.size + 1, 0, none⟩ = false := hres3.frozen 0
    have t3 : w3.frozen? ⟨w.heap.size + 1, 1, none⟩ = false := hres3.frozen 1
    have HRES3 := zaa hres3
    clear hres3))
   have g1 := (HRES3.out.set_ 0 (.string (rK r))).set_ 1 (.string (rV r))
   have g2 : Below w.heap.size w ((w3.setCell ⟨w.heap.size + 1, 0, none⟩ (.string (rK r))).setCell ⟨w.heap.size + 1, 1, none⟩ (.string (rV r))) :=
    ((HB0.out.trans (hb3.mono HB0.out.size)).setCell (p := ⟨w.heap.size + 1, 0, none⟩) (by show w.heap.size <= w.heap.size + 1; omega) _).setCell (p := ⟨w.heap.size + 1, 1, none⟩) (by show w.heap.size <= w.heap.size + 1; omega) _
   obtain ⟨WE, hWE⟩ : ∃ WE, WE = ((w3.setCell ⟨w.heap.size + 1, 0, none⟩ (.string (rK r))).setCell ⟨w.heap.size + 1, 1, none⟩ (.string (rV r))) := ⟨_, rfl⟩
   rw [<- hWE] at g1 g2 ⊢
   have r0 : WE.cell? ⟨w.heap.size + 1, 0, none⟩ = some (.string (rK r)) := by rw [g1.cell]; rfl
   have r1 : WE.cell? ⟨w.heap.size + 1, 1, none⟩ = some (.string (rV r)) := by rw [g1.cell]; rfl
   exact bodyPost_ret (v := .tuple #[zao r, .bool r.isSome]) (by unfold zao; simp [results, Tryz.results72, go_sem, r0, r1]) rfl ⟨rfl, g2⟩
end Go.Proofs.YtemondlgcmpbbaaGreatDoor
