/- Ka Kb Kc Kd Ns Bn: merged. -/
import Derived.Test.YtemondlgcmpbbaaGreatDoorMP17
import Derived.Test.YtemondlgcmpbbaaGreatDoorMP19
import Derived.Test.YtemondlgcmpbbaaGreatDoorMP22
import Derived.Deep.RegionHeld3
import Derived.Test.YtemondlgcmpbbaaGreatDoorMP05
import Derived.Test.YtemondlgcmpbbaaGreatDoorMP13
namespace Go.Proofs.YtemondlgcmpbbaaGreatDoor
open Go.RowKit
set_option maxRecDepth 100000
def vdA (ds : List Nat) : List Nat := (fun _ => []) ds
def stA (L : List Nat) (blk : Nat) (dirty : Bool) : List Nat := (fun _ => ins L blk) dirty
def zeh (n₀ : Nat) (J : List Nat -> List Nat -> World -> Prop) (L D : List Nat) (W : World) : Ending -> World -> Prop := fun e W' => e = .returned (.tuple #[]) /\ J L D W' /\ Below n₀ W W'
def z2i (n₀ : Nat) (J : List Nat -> List Nat -> World -> Prop) {h : Nat} (es : List (Str × Tr h)) (dss : List (List Nat)) (L D : List Nat) (W : World) (s : Value) (wr : World) : Prop :=
 ∃ k : Nat, k <= es.length /\ s = .int .i64 k /\ J (((es.take k).flatMap fun e => blks h e.2).foldl ins L) (D ++ vdA (dss.take k).flatten) wr /\ Below n₀ W wr
theorem zjs (a b : List Nat) : vdA (a ++ b) = vdA a ++ vdA b := rfl
theorem zqa (L : List Nat) (blk : Nat) (dirty : Bool) (l : List Nat) : stA (l.foldl ins L) blk dirty = (l ++ [blk]).foldl ins L := by
 unfold stA
 rw [List.foldl_append]; rfl
section
variable {n₀ M : Nat} {J : List Nat -> List Nat -> World -> Prop} {q1 : Nat}
set_option maxHeartbeats 1600000 in
theorem zuh (_hJ : ∀ L D W W', J L D W -> Below W.heap.size W W' -> J L D W')
   (hY : ∀ L D b blk gen dirty pv kv W, J L D W -> NodeAt W b blk gen dirty pv kv -> b < n₀ -> n₀ <= W.heap.size -> (D ++ vdA (zaf dirty b)).length <= M -> Calls Tryz.prog 88 #[P b, .pointer (some ⟨q1, 0, none⟩)] W (zeh n₀ J (stA L blk dirty) (D ++ vdA (zaf dirty b)) W))
   (n : Tr 0) (b : Nat) (ds L D : List Nat) (W : World) (hf : FRep (fun z => z < n₀) W 0 n b ds) (h0 : J L D W) (hn0 : n₀ <= W.heap.size) (hM : (D ++ vdA ds).length <= M) :
   Calls Tryz.prog 132 #[P b, .func (.func 88) #[] #[.pointer (some ⟨q1, 0, none⟩)]] W (zeh n₀ J ((blks 0 n).foldl ins L) (D ++ vdA ds) W) := by
 obtain ⟨A1, c1, A2, c2, hnd, hbn, hro, hds⟩ := hf
 have hc4 : W.cell? ⟨b, 4, none⟩ = some (.slice A2 0 c2) := by rw [Blk.cell hnd.node]; rfl
 have YC := zaa (hY L D b _ _ _ _ _ W h0 hnd.node hbn hn0 (by rw [<- hds]; exact hM))
 have hv : (blks 0 n).foldl ins L = stA L (Nd.blk n) (Nd.dirty n) := (zqa L _ _ []).symm
 rw [hv, hds]
 clear hnd hbn hro hds _hJ hY h0 hv hM
 unfold P at *
 go_enter Tryz.func132, Tryz.ntmps132
 go_wp2
 refine wp_loop_rounds 1 ?_
 rw [rounds_succ]
 go_wp2_with (first
  | (go_at_call 88; go_loud (refine YC.out.mono ?_; rintro e w3 ⟨rfl, hj3, hb3⟩)))
 go_end0
 exact ⟨rfl, hj3, hb3⟩
set_option maxHeartbeats 1600000 in
theorem zqb (hJ : ∀ L D W W', J L D W -> Below W.heap.size W W' -> J L D W')
   (hY : ∀ L D b blk gen dirty pv kv W, J L D W -> NodeAt W b blk gen dirty pv kv -> b < n₀ -> n₀ <= W.heap.size -> (D ++ vdA (zaf dirty b)).length <= M -> Calls Tryz.prog 88 #[P b, .pointer (some ⟨q1, 0, none⟩)] W (zeh n₀ J (stA L blk dirty) (D ++ vdA (zaf dirty b)) W))
   {h : Nat} (n : Tr (h + 1)) (b : Nat) (ds L D : List Nat) (W : World) (hf : FRep (fun z => z < n₀) W (h + 1) n b ds) (h0 : J L D W) (hn0 : n₀ <= W.heap.size) (hM : (D ++ vdA ds).length <= M)
   (IH : ∀ (c : Tr h) (bc : Nat) (dc L' D' : List Nat) (W' : World), FRep (fun z => z < n₀) W' h c bc dc -> J L' D' W' -> n₀ <= W'.heap.size -> (D' ++ vdA dc).length <= M -> Calls Tryz.prog 132 #[P bc, .func (.func 88) #[] #[.pointer (some ⟨q1, 0, none⟩)]] W' (zeh n₀ J ((blks h c).foldl ins L') (D' ++ vdA dc) W')) :
   Calls Tryz.prog 132 #[P b, .func (.func 88) #[] #[.pointer (some ⟨q1, 0, none⟩)]] W (zeh n₀ J ((blks (h + 1) n).foldl ins L) (D ++ vdA ds) W) := by
 obtain ⟨A1, c1, A2, c2, bs, dss, hnd, hbn, hro, hkk, hds⟩ := hf
 have hbsl := hkk.len.1
 have hdsl := hkk.len.2
 obtain ⟨es, hes⟩ : ∃ es, es = Nd.es n := ⟨_, rfl⟩
 have hvb : blks (h + 1) n = (es.flatMap fun e => blks h e.2) ++ [Nd.blk n] := by rw [hes]; rfl
 have HEND := zaa (fun (W' : World) (hj : J (stA ((es.flatMap fun e => blks h e.2).foldl ins L) (Nd.blk n) (Nd.dirty n)) ((D ++ vdA dss.flatten) ++ vdA (zaf (Nd.dirty n) b)) W') =>
  (show J ((blks (h + 1) n).foldl ins L) (D ++ vdA ds) W' by rw [zqa] at hj; rw [hvb, hds, zjs, <- List.append_assoc]; exact hj))
 rw [<- hes] at hnd hkk hro hbsl hdsl
 have hcap : es.length <= c2 /\ c2 <= maxLen := by
  obtain ⟨_, _, _, hv, e1, e2, _⟩ := hnd.ks
  injection hv with _ _ e3
  subst e3
  exact ⟨e1, e2⟩
 obtain ⟨hcap1, hcap2⟩ := hcap
 unfold maxLen at hcap2
 have hat : ∀ wr, Below n₀ W wr -> ∀ j (hj : j < es.length), ∃ g o, A2 = some ⟨g, o, none⟩ /\ wr.cell? ⟨g, o + j * 2, none⟩ = some (.string es[j].1) /\ wr.cell? ⟨g, o + j * 2 + 1, none⟩ = some (P (bs[j]'(by omega))) /\ FRep (fun z => z < n₀) wr h es[j].2 (bs[j]'(by omega)) (dss[j]'(by omega)) := by
  intro wr hb j hj
  obtain ⟨g, o, u1, u2, hA, hu1, hu2, hc1, hc2, hgl⟩ := hnd.ks.cells_at (Below.refl W.heap.size W) hj
  have hp := zbv es bs j hj (by omega)
  have e1 := hu1.symm.trans hp.1
  have e2 := hu2.symm.trans hp.2
  injection e1 with e1
  injection e2 with e2
  subst e1; subst e2
  have hg0 : g < n₀ := hro (by omega) _ hA
  exact ⟨g, o, hA, (hb.cell (p := ⟨g, o + j * 2, none⟩) hg0).trans hc1, (hb.cell (p := ⟨g, o + j * 2 + 1, none⟩) hg0).trans hc2, (hkk.at_ j hj (by omega) (by omega)).move (Agree.of_below hb (fun _ hx => hx)) (fun _ hx => hx)⟩
 have hc4 : W.cell? ⟨b, 4, none⟩ = some (.slice A2 es.length c2) := by rw [Blk.cell hnd.node]; rfl
 have HY := zaa (fun L D W' hb hj => hY L D b _ _ _ _ _ W' hj (show NodeAt W' b _ _ _ _ _ from (Below.block hb b hbn).trans hnd.node) hbn (Nat.le_trans hn0 hb.size))
 have HM := zaa (show ((D ++ vdA dss.flatten) ++ vdA (zaf (Nd.dirty n) b)).length <= M by rw [hds, zjs, <- List.append_assoc] at hM; exact hM)
 have HMK := zaa (fun (k : Nat) => show (D ++ vdA (dss.take k).flatten).length <= M by
  have h1 : dss.flatten = (dss.take k).flatten ++ (dss.drop k).flatten := by rw [<- List.flatten_append, List.take_append_drop]
  have h2 := HM.out
  rw [h1, zjs] at h2
  simp only [List.length_append] at h2 ⊢
  omega)
 have HAT := zaa hat
 have HIH := zaa IH
 have HJ := zaa hJ
 have H0 := zaa h0
 clear hnd hkk hro hds hat IH hJ h0 hes hY hvb hbn hM
 unfold P at *
 go_enter Tryz.func132, Tryz.ntmps132
 go_wp2
 go_loopw [11] (fun s wr => z2i n₀ J es dss L D W s wr) (fun s _ => es.length - (intOf s).toNat)
 case atStart => exact ⟨0, Nat.zero_le _, rfl, by simpa [vdA] using H0.out, Below.refl _ _⟩
 case round =>
  obtain ⟨k, hk, rfl, hj, hb⟩ := hrel
  by_cases hlt : k < es.length
  . obtain ⟨g, o, hA, e2, e3, hfk⟩ := HAT.out wr hb k hlt
    subst hA
    obtain ⟨x, hx⟩ : ∃ x, x = es[k] := ⟨_, rfl⟩
    obtain ⟨bc, hbc⟩ : ∃ bc, bc = bs[k]'(by omega) := ⟨_, rfl⟩
    obtain ⟨dc, hdc⟩ : ∃ dc, dc = dss[k]'(by omega) := ⟨_, rfl⟩
    rw [<- hx] at e2 hfk
    rw [<- hbc] at e3 hfk
    rw [<- hdc] at hfk
    have hal : Below wr.heap.size wr (wr.alloc (.cells #[.string x.1, P bc] 139)) := (Below.refl _ _).alloc (Nat.le_refl _) _
    have hzn : n₀ <= wr.heap.size := Nat.le_trans hn0 hb.size
    have m0 : (0 : Int) <= (k : Int) := by omega
    have m1 : (k : Int) < (es.length : Int) := by omega
    have hs1 : ((es.take (k + 1)).flatMap fun e => blks h e.2).foldl ins L = (blks h x.2).foldl ins (((es.take k).flatMap fun e => blks h e.2).foldl ins L) := by
     rw [zc3 hlt, <- hx, List.flatMap_append, List.foldl_append]
     simp
    have hs2 : D ++ vdA (dss.take (k + 1)).flatten = (D ++ vdA (dss.take k).flatten) ++ vdA dc := by
     rw [zc3 (by omega), <- hdc, List.flatten_append, zjs, List.append_assoc]
     simp
    have YC := zaa (HIH.out x.2 bc dc _ _ _ (hfk.below hal (fun _ h => h)) (HJ.out _ _ _ _ hj hal) (Nat.le_trans hzn hal.size) (by rw [<- hs2]; exact HMK.out (k + 1)))
    have HS1 := zaa hs1
    have HS2 := zaa hs2
    have HBR := zaa hb
    clear hj hb hx hbc hdc hs1 hs2 hfk
    unfold P at *
    go_wp2_with (first
     | (go_at_call 132; go_loud (refine YC.out.mono ?_; rintro e w3 ⟨rfl, hj3, hb3⟩)))
    go_roundw
    case rel =>
     refine ⟨k + 1, by omega, by go_num, ?_, HBR.out.trans (Below.from_alloc hb3 HBR.out hzn)⟩
     rw [HS1.out, HS2.out]
     exact hj3
    case measure => simp [intOf]; omega
  . have m1 : ¬ (k : Int) < (es.length : Int) := by omega
    have hkN : k = es.length := by omega
    have e1 : es.take k = es := by rw [hkN]; exact List.take_length
    have e2 : dss.take k = dss := by rw [hkN, <- hdsl]; exact List.take_length
    rw [e1, e2] at hj
    have YC := zaa (HY.out _ _ wr hb hj HM.out)
    have HBR := zaa hb
    clear hb hj e1 e2
    go_wp2_with (first
     | (go_at_call 88; go_loud (refine YC.out.mono ?_; rintro e w3 ⟨rfl, hj3, hb3⟩)))
    go_end0
    exact ⟨rfl, HEND.out _ hj3, HBR.out.trans hb3⟩
theorem znu (hJ : ∀ L D W W', J L D W -> Below W.heap.size W W' -> J L D W')
   (hY : ∀ L D b blk gen dirty pv kv W, J L D W -> NodeAt W b blk gen dirty pv kv -> b < n₀ -> n₀ <= W.heap.size -> (D ++ vdA (zaf dirty b)).length <= M -> Calls Tryz.prog 88 #[P b, .pointer (some ⟨q1, 0, none⟩)] W (zeh n₀ J (stA L blk dirty) (D ++ vdA (zaf dirty b)) W)) :
   ∀ (h : Nat) (n : Tr h) (b : Nat) (ds L D : List Nat) (W : World), FRep (fun z => z < n₀) W h n b ds -> J L D W -> n₀ <= W.heap.size -> (D ++ vdA ds).length <= M ->
   Calls Tryz.prog 132 #[P b, .func (.func 88) #[] #[.pointer (some ⟨q1, 0, none⟩)]] W (zeh n₀ J ((blks h n).foldl ins L) (D ++ vdA ds) W)
 | 0, n, b, ds, L, D, W, hf, h0, hn0, hM => zuh hJ hY n b ds L D W hf h0 hn0 hM
 | h + 1, n, b, ds, L, D, W, hf, h0, hn0, hM => zqb hJ hY n b ds L D W hf h0 hn0 hM fun c bc dc L' D' W' hf' hj' hn' hM' => znu hJ hY h c bc dc L' D' W' hf' hj' hn' hM'
theorem z1f (hJ : ∀ L D W W', J L D W -> Below W.heap.size W W' -> J L D W')
   (hY : ∀ L D b blk gen dirty pv kv W, J L D W -> NodeAt W b blk gen dirty pv kv -> b < n₀ -> n₀ <= W.heap.size -> (D ++ vdA (zaf dirty b)).length <= M -> Calls Tryz.prog 88 #[P b, .pointer (some ⟨q1, 0, none⟩)] W (zeh n₀ J (stA L blk dirty) (D ++ vdA (zaf dirty b)) W))
   (t : Tree) (rp : Value) (keys : Int) (ds L D : List Nat) (W : World) (hv : TreeV (fun z => z < n₀) W t rp ds) (h0 : J L D W) (hn0 : n₀ <= W.heap.size) (hM : (D ++ vdA ds).length <= M) :
   Calls Tryz.prog 87 #[.agg #[rp, .int .i64 keys], .func (.func 88) #[] #[.pointer (some ⟨q1, 0, none⟩)]] W (zeh n₀ J (t.blks.foldl ins L) (D ++ vdA ds) W) := by
 have hb0 : Below W.heap.size W (W.alloc (.cells #[rp, .int .i64 keys] 88)) := (Below.refl _ _).alloc (Nat.le_refl _) _
 have hj0 := hJ L D _ _ h0 hb0
 rcases hv with ⟨hr, rfl, rfl⟩ | ⟨h, n, b, hr, rfl, hf⟩
 . have e1 : t.blks = [] := by unfold Tree.blks; rw [hr]
   have e2 : D ++ vdA [] = D := by simp [vdA]
   rw [e1, e2]
   have HJ := zaa hj0
   have HB := zaa (hb0.mono hn0)
   clear hJ hY h0 hb0 hj0 e1 e2 hM
   go_enter Tryz.func87, Tryz.ntmps87
   go_wp2
   go_end0
   exact ⟨rfl, HJ.out, HB.out⟩
 . have e1 : t.blks = blks h n := by unfold Tree.blks; rw [hr]
   rw [e1]
   have YC := zaa (znu hJ hY h n b ds L D _ (hf.below hb0 (fun _ h => h)) hj0 (Nat.le_trans hn0 hb0.size) hM)
   have HB := zaa (hb0.mono hn0)
   clear hJ hY h0 hb0 hj0 e1 hf hM
   unfold P at *
   go_enter Tryz.func87, Tryz.ntmps87
   go_wp2_with (first
    | (go_at_call 132; go_loud (refine YC.out.mono ?_; rintro e w3 ⟨rfl, hj3, hb3⟩)))
   go_end0
   exact ⟨rfl, hj3, HB.out.trans hb3⟩
end
def vdB (ds : List Nat) : List Nat := ds
def stB (L : List Nat) (blk : Nat) (dirty : Bool) : List Nat := if dirty then L else ins L blk
def zd5 (n₀ : Nat) (J : List Nat -> List Nat -> World -> Prop) (L D : List Nat) (W : World) : Ending -> World -> Prop := fun e W' => e = .returned (.tuple #[]) /\ J L D W' /\ Below n₀ W W'
def z2j (n₀ : Nat) (J : List Nat -> List Nat -> World -> Prop) {h : Nat} (es : List (Str × Tr h)) (dss : List (List Nat)) (L D : List Nat) (W : World) (s : Value) (wr : World) : Prop :=
 ∃ k : Nat, k <= es.length /\ s = .int .i64 k /\ J (((es.take k).flatMap fun e => cblks h e.2).foldl ins L) (D ++ vdB (dss.take k).flatten) wr /\ Below n₀ W wr
theorem zjt (a b : List Nat) : vdB (a ++ b) = vdB a ++ vdB b := rfl
theorem zqc (L : List Nat) (blk : Nat) (dirty : Bool) (l : List Nat) : stB (l.foldl ins L) blk dirty = (l ++ (if dirty then [] else [blk])).foldl ins L := by
 unfold stB
 cases dirty <;> simp
section
variable {n₀ M : Nat} {J : List Nat -> List Nat -> World -> Prop} {q1 q2 : Nat}
set_option maxHeartbeats 1600000 in
theorem zui (_hJ : ∀ L D W W', J L D W -> Below W.heap.size W W' -> J L D W')
   (hY : ∀ L D b blk gen dirty pv kv W, J L D W -> NodeAt W b blk gen dirty pv kv -> b < n₀ -> n₀ <= W.heap.size -> (D ++ vdB (zaf dirty b)).length <= M -> Calls Tryz.prog 89 #[P b, .pointer (some ⟨q1, 0, none⟩), .pointer (some ⟨q2, 0, none⟩)] W (zd5 n₀ J (stB L blk dirty) (D ++ vdB (zaf dirty b)) W))
   (n : Tr 0) (b : Nat) (ds L D : List Nat) (W : World) (hf : FRep (fun z => z < n₀) W 0 n b ds) (h0 : J L D W) (hn0 : n₀ <= W.heap.size) (hM : (D ++ vdB ds).length <= M) :
   Calls Tryz.prog 132 #[P b, .func (.func 89) #[] #[.pointer (some ⟨q1, 0, none⟩), .pointer (some ⟨q2, 0, none⟩)]] W (zd5 n₀ J ((cblks 0 n).foldl ins L) (D ++ vdB ds) W) := by
 obtain ⟨A1, c1, A2, c2, hnd, hbn, hro, hds⟩ := hf
 have hc4 : W.cell? ⟨b, 4, none⟩ = some (.slice A2 0 c2) := by rw [Blk.cell hnd.node]; rfl
 have YC := zaa (hY L D b _ _ _ _ _ W h0 hnd.node hbn hn0 (by rw [<- hds]; exact hM))
 have hv : (cblks 0 n).foldl ins L = stB L (Nd.blk n) (Nd.dirty n) := (zqc L _ _ []).symm
 rw [hv, hds]
 clear hnd hbn hro hds _hJ hY h0 hv hM
 unfold P at *
 go_enter Tryz.func132, Tryz.ntmps132
 go_wp2
 refine wp_loop_rounds 1 ?_
 rw [rounds_succ]
 go_wp2_with (first
  | (go_at_call 89; go_loud (refine YC.out.mono ?_; rintro e w3 ⟨rfl, hj3, hb3⟩)))
 go_end0
 exact ⟨rfl, hj3, hb3⟩
set_option maxHeartbeats 1600000 in
theorem zqd (hJ : ∀ L D W W', J L D W -> Below W.heap.size W W' -> J L D W')
   (hY : ∀ L D b blk gen dirty pv kv W, J L D W -> NodeAt W b blk gen dirty pv kv -> b < n₀ -> n₀ <= W.heap.size -> (D ++ vdB (zaf dirty b)).length <= M -> Calls Tryz.prog 89 #[P b, .pointer (some ⟨q1, 0, none⟩), .pointer (some ⟨q2, 0, none⟩)] W (zd5 n₀ J (stB L blk dirty) (D ++ vdB (zaf dirty b)) W))
   {h : Nat} (n : Tr (h + 1)) (b : Nat) (ds L D : List Nat) (W : World) (hf : FRep (fun z => z < n₀) W (h + 1) n b ds) (h0 : J L D W) (hn0 : n₀ <= W.heap.size) (hM : (D ++ vdB ds).length <= M)
   (IH : ∀ (c : Tr h) (bc : Nat) (dc L' D' : List Nat) (W' : World), FRep (fun z => z < n₀) W' h c bc dc -> J L' D' W' -> n₀ <= W'.heap.size -> (D' ++ vdB dc).length <= M -> Calls Tryz.prog 132 #[P bc, .func (.func 89) #[] #[.pointer (some ⟨q1, 0, none⟩), .pointer (some ⟨q2, 0, none⟩)]] W' (zd5 n₀ J ((cblks h c).foldl ins L') (D' ++ vdB dc) W')) :
   Calls Tryz.prog 132 #[P b, .func (.func 89) #[] #[.pointer (some ⟨q1, 0, none⟩), .pointer (some ⟨q2, 0, none⟩)]] W (zd5 n₀ J ((cblks (h + 1) n).foldl ins L) (D ++ vdB ds) W) := by
 obtain ⟨A1, c1, A2, c2, bs, dss, hnd, hbn, hro, hkk, hds⟩ := hf
 have hbsl := hkk.len.1
 have hdsl := hkk.len.2
 obtain ⟨es, hes⟩ : ∃ es, es = Nd.es n := ⟨_, rfl⟩
 have hvb : cblks (h + 1) n = (es.flatMap fun e => cblks h e.2) ++ (if Nd.dirty n then [] else [Nd.blk n]) := by rw [hes]; rfl
 have HEND := zaa (fun (W' : World) (hj : J (stB ((es.flatMap fun e => cblks h e.2).foldl ins L) (Nd.blk n) (Nd.dirty n)) ((D ++ vdB dss.flatten) ++ vdB (zaf (Nd.dirty n) b)) W') =>
  (show J ((cblks (h + 1) n).foldl ins L) (D ++ vdB ds) W' by rw [zqc] at hj; rw [hvb, hds, zjt, <- List.append_assoc]; exact hj))
 rw [<- hes] at hnd hkk hro hbsl hdsl
 have hcap : es.length <= c2 /\ c2 <= maxLen := by
  obtain ⟨_, _, _, hv, e1, e2, _⟩ := hnd.ks
  injection hv with _ _ e3
  subst e3
  exact ⟨e1, e2⟩
 obtain ⟨hcap1, hcap2⟩ := hcap
 unfold maxLen at hcap2
 have hat : ∀ wr, Below n₀ W wr -> ∀ j (hj : j < es.length), ∃ g o, A2 = some ⟨g, o, none⟩ /\ wr.cell? ⟨g, o + j * 2, none⟩ = some (.string es[j].1) /\ wr.cell? ⟨g, o + j * 2 + 1, none⟩ = some (P (bs[j]'(by omega))) /\ FRep (fun z => z < n₀) wr h es[j].2 (bs[j]'(by omega)) (dss[j]'(by omega)) := by
  intro wr hb j hj
  obtain ⟨g, o, u1, u2, hA, hu1, hu2, hc1, hc2, hgl⟩ := hnd.ks.cells_at (Below.refl W.heap.size W) hj
  have hp := zbv es bs j hj (by omega)
  have e1 := hu1.symm.trans hp.1
  have e2 := hu2.symm.trans hp.2
  injection e1 with e1
  injection e2 with e2
  subst e1; subst e2
  have hg0 : g < n₀ := hro (by omega) _ hA
  exact ⟨g, o, hA, (hb.cell (p := ⟨g, o + j * 2, none⟩) hg0).trans hc1, (hb.cell (p := ⟨g, o + j * 2 + 1, none⟩) hg0).trans hc2, (hkk.at_ j hj (by omega) (by omega)).move (Agree.of_below hb (fun _ hx => hx)) (fun _ hx => hx)⟩
 have hc4 : W.cell? ⟨b, 4, none⟩ = some (.slice A2 es.length c2) := by rw [Blk.cell hnd.node]; rfl
 have HY := zaa (fun L D W' hb hj => hY L D b _ _ _ _ _ W' hj (show NodeAt W' b _ _ _ _ _ from (Below.block hb b hbn).trans hnd.node) hbn (Nat.le_trans hn0 hb.size))
 have HM := zaa (show ((D ++ vdB dss.flatten) ++ vdB (zaf (Nd.dirty n) b)).length <= M by rw [hds, zjt, <- List.append_assoc] at hM; exact hM)
 have HMK := zaa (fun (k : Nat) => show (D ++ vdB (dss.take k).flatten).length <= M by
  have h1 : dss.flatten = (dss.take k).flatten ++ (dss.drop k).flatten := by rw [<- List.flatten_append, List.take_append_drop]
  have h2 := HM.out
  rw [h1, zjt] at h2
  simp only [List.length_append] at h2 ⊢
  omega)
 have HAT := zaa hat
 have HIH := zaa IH
 have HJ := zaa hJ
 have H0 := zaa h0
 clear hnd hkk hro hds hat IH hJ h0 hes hY hvb hbn hM
 unfold P at *
 go_enter Tryz.func132, Tryz.ntmps132
 go_wp2
 go_loopw [11] (fun s wr => z2j n₀ J es dss L D W s wr) (fun s _ => es.length - (intOf s).toNat)
 case atStart => exact ⟨0, Nat.zero_le _, rfl, by simpa [vdB] using H0.out, Below.refl _ _⟩
 case round =>
  obtain ⟨k, hk, rfl, hj, hb⟩ := hrel
  by_cases hlt : k < es.length
  . obtain ⟨g, o, hA, e2, e3, hfk⟩ := HAT.out wr hb k hlt
    subst hA
    obtain ⟨x, hx⟩ : ∃ x, x = es[k] := ⟨_, rfl⟩
    obtain ⟨bc, hbc⟩ : ∃ bc, bc = bs[k]'(by omega) := ⟨_, rfl⟩
    obtain ⟨dc, hdc⟩ : ∃ dc, dc = dss[k]'(by omega) := ⟨_, rfl⟩
    rw [<- hx] at e2 hfk
    rw [<- hbc] at e3 hfk
    rw [<- hdc] at hfk
    have hal : Below wr.heap.size wr (wr.alloc (.cells #[.string x.1, P bc] 139)) := (Below.refl _ _).alloc (Nat.le_refl _) _
    have hzn : n₀ <= wr.heap.size := Nat.le_trans hn0 hb.size
    have m0 : (0 : Int) <= (k : Int) := by omega
    have m1 : (k : Int) < (es.length : Int) := by omega
    have hs1 : ((es.take (k + 1)).flatMap fun e => cblks h e.2).foldl ins L = (cblks h x.2).foldl ins (((es.take k).flatMap fun e => cblks h e.2).foldl ins L) := by
     rw [zc3 hlt, <- hx, List.flatMap_append, List.foldl_append]
     simp
    have hs2 : D ++ vdB (dss.take (k + 1)).flatten = (D ++ vdB (dss.take k).flatten) ++ vdB dc := by
     rw [zc3 (by omega), <- hdc, List.flatten_append, zjt, List.append_assoc]
     simp
    have YC := zaa (HIH.out x.2 bc dc _ _ _ (hfk.below hal (fun _ h => h)) (HJ.out _ _ _ _ hj hal) (Nat.le_trans hzn hal.size) (by rw [<- hs2]; exact HMK.out (k + 1)))
    have HS1 := zaa hs1
    have HS2 := zaa hs2
    have HBR := zaa hb
    clear hj hb hx hbc hdc hs1 hs2 hfk
    unfold P at *
    go_wp2_with (first
     | (go_at_call 132; go_loud (refine YC.out.mono ?_; rintro e w3 ⟨rfl, hj3, hb3⟩)))
    go_roundw
    case rel =>
     refine ⟨k + 1, by omega, by go_num, ?_, HBR.out.trans (Below.from_alloc hb3 HBR.out hzn)⟩
     rw [HS1.out, HS2.out]
     exact hj3
    case measure => simp [intOf]; omega
  . have m1 : ¬ (k : Int) < (es.length : Int) := by omega
    have hkN : k = es.length := by omega
    have e1 : es.take k = es := by rw [hkN]; exact List.take_length
    have e2 : dss.take k = dss := by rw [hkN, <- hdsl]; exact List.take_length
    rw [e1, e2] at hj
    have YC := zaa (HY.out _ _ wr hb hj HM.out)
    have HBR := zaa hb
    clear hb hj e1 e2
    go_wp2_with (first
     | (go_at_call 89; go_loud (refine YC.out.mono ?_; rintro e w3 ⟨rfl, hj3, hb3⟩)))
    go_end0
    exact ⟨rfl, HEND.out _ hj3, HBR.out.trans hb3⟩
theorem znv (hJ : ∀ L D W W', J L D W -> Below W.heap.size W W' -> J L D W')
   (hY : ∀ L D b blk gen dirty pv kv W, J L D W -> NodeAt W b blk gen dirty pv kv -> b < n₀ -> n₀ <= W.heap.size -> (D ++ vdB (zaf dirty b)).length <= M -> Calls Tryz.prog 89 #[P b, .pointer (some ⟨q1, 0, none⟩), .pointer (some ⟨q2, 0, none⟩)] W (zd5 n₀ J (stB L blk dirty) (D ++ vdB (zaf dirty b)) W)) :
   ∀ (h : Nat) (n : Tr h) (b : Nat) (ds L D : List Nat) (W : World), FRep (fun z => z < n₀) W h n b ds -> J L D W -> n₀ <= W.heap.size -> (D ++ vdB ds).length <= M ->
   Calls Tryz.prog 132 #[P b, .func (.func 89) #[] #[.pointer (some ⟨q1, 0, none⟩), .pointer (some ⟨q2, 0, none⟩)]] W (zd5 n₀ J ((cblks h n).foldl ins L) (D ++ vdB ds) W)
 | 0, n, b, ds, L, D, W, hf, h0, hn0, hM => zui hJ hY n b ds L D W hf h0 hn0 hM
 | h + 1, n, b, ds, L, D, W, hf, h0, hn0, hM => zqd hJ hY n b ds L D W hf h0 hn0 hM fun c bc dc L' D' W' hf' hj' hn' hM' => znv hJ hY h c bc dc L' D' W' hf' hj' hn' hM'
theorem z1g (hJ : ∀ L D W W', J L D W -> Below W.heap.size W W' -> J L D W')
   (hY : ∀ L D b blk gen dirty pv kv W, J L D W -> NodeAt W b blk gen dirty pv kv -> b < n₀ -> n₀ <= W.heap.size -> (D ++ vdB (zaf dirty b)).length <= M -> Calls Tryz.prog 89 #[P b, .pointer (some ⟨q1, 0, none⟩), .pointer (some ⟨q2, 0, none⟩)] W (zd5 n₀ J (stB L blk dirty) (D ++ vdB (zaf dirty b)) W))
   (t : Tree) (rp : Value) (keys : Int) (ds L D : List Nat) (W : World) (hv : TreeV (fun z => z < n₀) W t rp ds) (h0 : J L D W) (hn0 : n₀ <= W.heap.size) (hM : (D ++ vdB ds).length <= M) :
   Calls Tryz.prog 87 #[.agg #[rp, .int .i64 keys], .func (.func 89) #[] #[.pointer (some ⟨q1, 0, none⟩), .pointer (some ⟨q2, 0, none⟩)]] W (zd5 n₀ J (t.cblks.foldl ins L) (D ++ vdB ds) W) := by
 have hb0 : Below W.heap.size W (W.alloc (.cells #[rp, .int .i64 keys] 88)) := (Below.refl _ _).alloc (Nat.le_refl _) _
 have hj0 := hJ L D _ _ h0 hb0
 rcases hv with ⟨hr, rfl, rfl⟩ | ⟨h, n, b, hr, rfl, hf⟩
 . have e1 : t.cblks = [] := by unfold Tree.cblks; rw [hr]
   have e2 : D ++ vdB [] = D := by simp [vdB]
   rw [e1, e2]
   have HJ := zaa hj0
   have HB := zaa (hb0.mono hn0)
   clear hJ hY h0 hb0 hj0 e1 e2 hM
   go_enter Tryz.func87, Tryz.ntmps87
   go_wp2
   go_end0
   exact ⟨rfl, HJ.out, HB.out⟩
 . have e1 : t.cblks = cblks h n := by unfold Tree.cblks; rw [hr]
   rw [e1]
   have YC := zaa (znv hJ hY h n b ds L D _ (hf.below hb0 (fun _ h => h)) hj0 (Nat.le_trans hn0 hb0.size) hM)
   have HB := zaa (hb0.mono hn0)
   clear hJ hY h0 hb0 hj0 e1 hf hM
   unfold P at *
   go_enter Tryz.func87, Tryz.ntmps87
   go_wp2_with (first
    | (go_at_call 132; go_loud (refine YC.out.mono ?_; rintro e w3 ⟨rfl, hj3, hb3⟩)))
   go_end0
   exact ⟨rfl, hj3, HB.out.trans hb3⟩
end
structure UsedJ (n₀ qu u : Nat) (L : List Nat) (W : World) : Prop where
 var_ : Blk W qu 155 #[.map (some u)]
 used : UsedAt W u L
 low : n₀ <= qu /\ n₀ <= u
theorem UsedJ.below {n₀ qu u : Nat} {L : List Nat} {W W' : World} (h : UsedJ n₀ qu u L W) (hb : Below W.heap.size W W') : UsedJ n₀ qu u L W' := ⟨h.var_.below hb h.var_.lt, h.used.below hb, h.low⟩
theorem UsedJ.only {n₀ qu u : Nat} {L : List Nat} {W W' : World} {fp : Nat -> Prop} (h : UsedJ n₀ qu u L W) (ho : Only fp W W') (h1 : ¬ fp qu) (h2 : ¬ fp u) : UsedJ n₀ qu u L W' := ⟨h.var_.only ho h1, h.used.only ho h2, h.low⟩
set_option maxHeartbeats 1600000 in
theorem zrx {X : World -> Prop} (hX : ∀ W W', X W -> (∀ y T cs, Blk W y T cs -> Blk W' y T cs) -> X W') (n₀ qu u : Nat) (L D : List Nat) (b blk gen : Nat) (dirty : Bool) (pv kv : Value) (W : World) (h : UsedJ n₀ qu u L W /\ X W) (hn : NodeAt W b blk gen dirty pv kv) (_hb : b < n₀) (hn0 : n₀ <= W.heap.size) :
   Calls Tryz.prog 88 #[P b, .pointer (some ⟨qu, 0, none⟩)] W (zeh n₀ (fun L _ W => UsedJ n₀ qu u L W /\ X W) (stA L blk dirty) (D ++ vdA (zaf dirty b)) W) := by
 obtain ⟨⟨h1, h2, h3, h4⟩, hx⟩ := h
 obtain ⟨w', hrun, hu', ho', hs'⟩ := zg1 (w := W.drew) (show UsedAt W.drew u L from h2) blk
 have hne1 : u ≠ qu := h2.ne_blk h1
 have hne2 : u ≠ b := h2.ne_blk hn
 have c0 : W.cell? ⟨qu, 0, none⟩ = some (.map (some u)) := zab h1 0 rfl
 have c1 : W.cell? ⟨b, 0, none⟩ = some (.int .i64 blk) := zab hn 0 rfl
 have d0 : w'.cell? ⟨qu, 0, none⟩ = some (.map (some u)) := (ho'.cell (p := ⟨qu, 0, none⟩) h1.lt (fun e => hne1 e.symm)).trans c0
 have d1 : w'.cell? ⟨b, 0, none⟩ = some (.int .i64 blk) := (ho'.cell (p := ⟨b, 0, none⟩) (Blk.lt hn) (fun e => hne2 e.symm)).trans c1
 have hv' : Blk w' qu 155 #[.map (some u)] := (Blk.drew h1).only ho' (fun e => hne1 e.symm)
 have hxx : X w' := hX W w' hx fun y T cs hy => Blk.only (show Blk W.drew y T cs from hy) ho' (fun e => h2.ne_blk hy e.symm)
 have HXX := zaa hxx
 have HU := zaa hu'
 have HO := zaa ho'
 have HV := zaa hv'
 clear h1 h2 hn hu' ho' hs' hv' hX hx hxx
 unfold P
 go_enter Tryz.func88, Tryz.ntmps88
 go_region_held3 (fun w' => w'.cell? ⟨qu, 0, none⟩ = some (.map (some u)) /\ w'.cell? ⟨b, 0, none⟩ = some (.int .i64 blk)) (first | go_keep | exact ⟨d0, d1⟩) (fail)
 go_end0
 refine ⟨rfl, ⟨⟨HV.out, HU.out, h3, h4⟩, HXX.out⟩, ?_⟩
 exact (Below.refl n₀ W).drew.trans (HO.out.to_below (show n₀ <= W.drew.heap.size from hn0) fun x hx => hx ▸ h4)
theorem zzn : (Tryz.prog.info? 86).map (fun i => (i.zero, i.size, i.bytes)) = some (some (.pointer none), 1, 8) := by kernel_rfl
structure BothJ (n₀ qd qu u : Nat) (L D : List Nat) (W : World) : Prop where
 used : UsedJ n₀ qu u L W
 dirt : ∃ v, Blk W qd 156 #[v] /\ W.ownsRow n₀ 86 1 v D.length (D.map P)
 low : n₀ <= qd
theorem BothJ.below {n₀ qd qu u : Nat} {L D : List Nat} {W W' : World} (h : BothJ n₀ qd qu u L D W) (hb : Below W.heap.size W W') : BothJ n₀ qd qu u L D W' := by
 obtain ⟨v, h1, h2⟩ := h.dirt
 exact ⟨h.used.below hb, ⟨v, h1.below hb h1.lt, zas h2 hb⟩, h.low⟩
set_option maxHeartbeats 1600000 in
theorem zon {X : World -> Prop} (hX : ∀ W W', X W -> (∀ y T cs, Blk W y T cs -> T ≠ 86 -> T ≠ 156 -> Blk W' y T cs) -> X W') (n₀ qd qu u : Nat) (L D : List Nat) (b blk gen : Nat) (pv kv : Value) (W : World) (h : BothJ n₀ qd qu u L D W /\ X W) (hn : NodeAt W b blk gen false pv kv) (_hb : b < n₀) (hn0 : n₀ <= W.heap.size) :
   Calls Tryz.prog 89 #[P b, .pointer (some ⟨qd, 0, none⟩), .pointer (some ⟨qu, 0, none⟩)] W (zd5 n₀ (fun L D W => BothJ n₀ qd qu u L D W /\ X W) (stB L blk false) (D ++ vdB (zaf false b)) W) := by
 obtain ⟨⟨⟨h1, h2, h3, h4⟩, ⟨v, hv, ho⟩, h5⟩, hx⟩ := h
 obtain ⟨w', hrun, hu', ho', hs'⟩ := zg1 (w := W.drew) (show UsedAt W.drew u L from h2) blk
 have hne1 : u ≠ qu := h2.ne_blk h1
 have hne2 : u ≠ b := h2.ne_blk hn
 have hne3 : u ≠ qd := h2.ne_blk hv
 have c0 : W.cell? ⟨qu, 0, none⟩ = some (.map (some u)) := zab h1 0 rfl
 have c1 : W.cell? ⟨b, 0, none⟩ = some (.int .i64 blk) := zab hn 0 rfl
 have c2 : W.cell? ⟨b, 2, none⟩ = some (.bool false) := zab hn 2 rfl
 have d0 : w'.cell? ⟨qu, 0, none⟩ = some (.map (some u)) := (ho'.cell (p := ⟨qu, 0, none⟩) h1.lt (fun e => hne1 e.symm)).trans c0
 have d1 : w'.cell? ⟨b, 0, none⟩ = some (.int .i64 blk) := (ho'.cell (p := ⟨b, 0, none⟩) (Blk.lt hn) (fun e => hne2 e.symm)).trans c1
 have hv' : Blk w' qu 155 #[.map (some u)] := (Blk.drew h1).only ho' (fun e => hne1 e.symm)
 have hd' : Blk w' qd 156 #[v] := (Blk.drew hv).only ho' (fun e => hne3 e.symm)
 have hr' : w'.ownsRow n₀ 86 1 v D.length (D.map P) := za0 (zas ho (Below.refl _ _).drew) ho' fun x cs hx e => h2.ne_blk hx e.symm
 have hxx : X w' := hX W w' hx fun y T cs hy _ _ => Blk.only (show Blk W.drew y T cs from hy) ho' (fun e => h2.ne_blk hy e.symm)
 have HXX := zaa hxx
 have HU := zaa hu'
 have HO := zaa ho'
 have HV := zaa hv'
 have HD := zaa hd'
 have HR := zaa hr'
 clear h1 h2 hn hu' ho' hs' hv' hv ho hd' hr' hX hx hxx
 unfold P
 go_enter Tryz.func89, Tryz.ntmps89
 go_wp2_with fail
 go_region_held3 (fun w' => w'.cell? ⟨qu, 0, none⟩ = some (.map (some u)) /\ w'.cell? ⟨b, 0, none⟩ = some (.int .i64 blk)) (first | go_keep | exact ⟨d0, d1⟩) (fail)
 go_end0
 refine ⟨rfl, ⟨⟨⟨HV.out, HU.out, h3, h4⟩, ⟨v, HD.out, ?_⟩, h5⟩, HXX.out⟩, (Below.refl n₀ W).drew.trans (HO.out.to_below (show n₀ <= W.drew.heap.size from hn0) fun x hx => hx ▸ h4)⟩
 simpa [vdB, zaf] using HR.out
set_option maxHeartbeats 1600000 in
theorem zoo {X : World -> Prop} (hX : ∀ W W', X W -> (∀ y T cs, Blk W y T cs -> T ≠ 86 -> T ≠ 156 -> Blk W' y T cs) -> X W') (n₀ qd qu u : Nat) (L D : List Nat) (b blk gen : Nat) (pv kv : Value) (W : World) (h : BothJ n₀ qd qu u L D W /\ X W) (hn : NodeAt W b blk gen true pv kv) (_hb : b < n₀) (hn0 : n₀ <= W.heap.size) (hM : D.length <= 1000) :
   Calls Tryz.prog 89 #[P b, .pointer (some ⟨qd, 0, none⟩), .pointer (some ⟨qu, 0, none⟩)] W (zd5 n₀ (fun L D W => BothJ n₀ qd qu u L D W /\ X W) (stB L blk true) (D ++ vdB (zaf true b)) W) := by
 obtain ⟨⟨hU, ⟨v, hv, ho⟩, h5⟩, hx⟩ := h
 obtain ⟨A, c, rfl, hform⟩ := zan ho
 have HRW := zaa hform
 clear hform
 have c0 : W.cell? ⟨qd, 0, none⟩ = some (.slice A D.length c) := zab hv 0 rfl
 have c2 : W.cell? ⟨b, 2, none⟩ = some (.bool true) := zab hn 2 rfl
 have hal : Below W.heap.size W (W.alloc (.cells #[.pointer (some ⟨b, 0, none⟩)] 86)) := (Below.refl _ _).alloc (Nat.le_refl _) _
 obtain ⟨i0, hi0, hz0, hz1, hz2⟩ := info_parts zzn
 have hne : ∀ g, (Value.slice A D.length c).ownBlock = some g -> g ≠ qd := fun g hg e => by subst e; exact zag ho hv (by decide) hg
 have z0 : ∀ o, (W.alloc o).cell? ⟨qd, 0, none⟩ = some (.slice A D.length c) := fun o => zai o c0
 have HXX := zaa hx
 have HHX := zaa hX
 have HU := zaa hU
 have HV := zaa hv
 have HO := zaa (zas ho hal)
 have HAL := zaa hal
 have HI0 := zaa hi0
 have HZ0 := zaa hz0
 have HZ1 := zaa hz1
 have HZ2 := zaa hz2
 have HNE := zaa hne
 clear hU hv ho hi0 hz0 hz1 hz2 hn hal hne hx hX
 unfold P
 go_enter Tryz.func89, Tryz.ntmps89
 go_wp2_with (at_builtin
              refine zbp _ rfl _ _ 156 rfl n₀ 86 i0 _ 1 8 Tryz.underlying156 HI0.out HZ0.out HZ1.out HZ2.out rfl (by decide) (.slice A D.length c) D.length (D.map P) rfl HO.out (W.heap.size + 1) (some ⟨W.heap.size, 0, none⟩) 1 1 [.pointer (some ⟨b, 0, none⟩)] rfl ⟨rfl, fun _ => ⟨_, rfl, Nat.lt_succ_self _, fun j u hu => by rw [Addr.add_lit]; exact (Blk.new W 86 #[.pointer (some ⟨b, 0, none⟩)]).range (cur := [.pointer (some ⟨b, 0, none⟩)]) (o := 0) rfl j u hu⟩⟩ (fun u hu => by rw [List.mem_singleton.1 hu]; rfl) (by unfold maxLen; omega) (by omega) (by simp only [World.size_alloc]; omega) ?_
              intro v' w3 hown3 hgr3 hat3
              obtain ⟨A3, c3, rfl, -⟩ := zan hown3
              have hq3 := (HV.out.alloc (.cells #[.pointer (some ⟨b, 0, none⟩)] 86)).grown hgr3 (fun e => HNE.out _ e.symm rfl)
              have y0 : w3.cell? ⟨qd, 0, none⟩ = some (.slice A D.length c) := zab hq3 0 rfl
              have y1 : w3.frozen? ⟨qd, 0, none⟩ = false := hq3.frozen 0
              have HQ3 := zaa hq3
              have HOWN3 := zaa hown3
              have HGR3 := zaa hgr3
              clear hq3 hown3 hgr3 hat3)
 go_end0
 have hlow : ∀ g, (Value.slice A D.length c).ownBlock = some g -> n₀ <= g := fun g hg => (zdv HO.out hg).1
 have hbw : Below n₀ W w3 := by
  have h1 : Below n₀ W (W.alloc (.cells #[.pointer (some ⟨b, 0, none⟩)] 86)) := (Below.refl _ _).alloc hn0 _
  exact ⟨HGR3.out.os.trans h1.os, HGR3.out.tape.trans h1.tape, HGR3.out.output.trans h1.output, Nat.le_trans h1.size HGR3.out.size, fun k hk => (HGR3.out.block k (Nat.lt_of_lt_of_le hk (Nat.le_trans hn0 (by simp))) (fun e => by have := hlow k e.symm; omega)).trans (h1.block k hk)⟩
 have hOset : Only (· = qd) w3 (w3.setCell ⟨qd, 0, none⟩ (.slice A3 (D.length + 1) c3)) := Only.set1 _ _ _ _
 have hne1 : qu ≠ qd := HU.out.var_.ne_ HV.out (by decide)
 have hne2 : u ≠ qd := HU.out.used.ne_blk HV.out
 have hu3 : UsedJ n₀ qu u L w3 := by
  obtain ⟨j1, j2, j3⟩ := HU.out
  have hq : some qu ≠ (Value.slice A D.length c).ownBlock := fun e => zag HO.out (j1.alloc _) (by decide) e.symm
  have hq2 : some u ≠ (Value.slice A D.length c).ownBlock := fun e => by
   obtain ⟨_, _, _, cur, hb, _⟩ := (HRW.out).2.2.1 u e.symm
   exact j2.ne_blk hb rfl
  refine ⟨(j1.alloc _).grown HGR3.out hq, ?_, j3⟩
  obtain ⟨es, clk, hm, hk⟩ := j2
  have hlt := (Array.getElem?_eq_some_iff.1 hm).1
  exact ⟨es, clk, (HGR3.out.block u (Nat.lt_of_lt_of_le hlt (by simp)) hq2).trans ((Below.heap_alloc W _ u hlt).trans hm), hk⟩
 have hown4 : (w3.setCell ⟨qd, 0, none⟩ (.slice A3 (D.length + 1) c3)).ownsRow n₀ 86 1 (.slice A3 (D.length + 1) c3) (D.length + 1) (D.map P ++ [.pointer (some ⟨b, 0, none⟩)]) := za0 HOWN3.out hOset fun x cs hx e => Blk.ne_ hx HQ3.out (by decide) e
 have hxx : X (w3.setCell ⟨qd, 0, none⟩ (.slice A3 (D.length + 1) c3)) := HHX.out W _ HXX.out fun y T cs hy hT1 hT2 =>
  Blk.only ((hy.alloc _).grown HGR3.out (fun e => zag HO.out (hy.alloc _) (fun e => hT1 e.symm) e.symm)) hOset (fun e => Blk.ne_ hy HV.out hT2 e)
 refine ⟨rfl, ⟨⟨hu3.only hOset hne1 hne2, ⟨_, HQ3.out.set_ 0 _, ?_⟩, h5⟩, hxx⟩, hbw.setCell (p := ⟨qd, 0, none⟩) h5 _⟩
 simpa [vdB, zaf] using hown4
structure NdS where
 blk : Nat
 gen : Nat
 dirty : Bool
 pv : Value
 kv : Value
def zb3 (w : World) (y : Nat) (s : NdS) : Prop := NodeAt w y s.blk s.gen s.dirty s.pv s.kv
def Half (w : World) (D : List Nat) (k : Nat) (s t : Nat -> NdS) : Prop := ∀ j (hj : j < D.length), zb3 w D[j] (if j < k then t j else s j)
theorem Half.step {w : World} {D : List Nat} {k : Nat} {s t : Nat -> NdS} (h : Half w D k s t) (hnd : D.Nodup) {w' : World} (hk : k < D.length) (ho : Only (· = D[k]) w w') (ha : zb3 w' D[k] (t k)) : Half w' D (k + 1) s t := by
 intro j hj
 by_cases e : j = k
 . subst e
   rw [if_pos (Nat.lt_succ_self _)]
   exact ha
 . have hne : D[j] ≠ D[k] := fun h => e ((List.getElem_inj hnd).1 h)
   have := Blk.only (h j hj) ho hne
   have e2 : (j < k + 1) = (j < k) := by
    apply propext
    omega
   simp only [e2]
   exact this
theorem Half.all {w : World} {D : List Nat} {s t : Nat -> NdS} (h : Half w D D.length s t) : ∀ j (hj : j < D.length), zb3 w D[j] (t j) := fun j hj => by have := h j hj; rwa [if_pos hj] at this
theorem Half.zero {w : World} {D : List Nat} {s t : Nat -> NdS} (h : ∀ j (hj : j < D.length), zb3 w D[j] (s j)) : Half w D 0 s t := fun j hj => by rw [if_neg (by omega)]; exact h j hj
def z1h (w : World) (D : List Nat) (s t : Nat -> NdS) (v : Value) (wr : World) : Prop := ∃ k : Nat, k <= D.length /\ v = .int .i64 k /\ Half wr D k s t /\ Only (· ∈ D) w wr
set_option maxHeartbeats 1600000 in
theorem zzo (n₀ q6 qd : Nat) (v : Value) (D : List Nat) (s : Nat -> NdS) (w : World) (he : Blk w q6 31 #[.nilIface]) (hv : Blk w qd 156 #[v]) (ho : w.ownsRow n₀ 86 1 v D.length (D.map P)) (hnd : D.Nodup) (hlen : D.length <= 1000) (hs : ∀ j (hj : j < D.length), zb3 w D[j] (s j)) (hlow : ∀ y ∈ D, y < n₀) (hq : n₀ <= q6 /\ n₀ <= qd) :
   CallsD Tryz.prog 90 #[.pointer (some ⟨q6, 0, none⟩), .pointer (some ⟨qd, 0, none⟩)] .returning w fun e u' w' => u' = .returning /\ (e = .returned (.tuple #[]) /\ (∀ j (hj : j < D.length), zb3 w' D[j] { s j with dirty := false }) /\ Only (· ∈ D) w w') := by
 obtain ⟨A, c, rfl, hform⟩ := zan ho
 have c0 : w.cell? ⟨qd, 0, none⟩ = some (.slice A D.length c) := zab hv 0 rfl
 refine callsD_of_wpS Tryz.func90 rfl fun c₀ cs hu => ?_
 apply wpS_seq
 apply wpS_region
 simp [wpOpsS, go_sem, recoverD, hu, Tryz.ntmps90]
 refine (zis _ _ _).mono ?_
 rintro e w' ⟨rfl, h⟩
 rw [h]
 clear h
 dsimp only [Exit.thenS]
 refine wpS_of_wp ?_
 have hc : D.length <= c /\ c <= maxLen := ⟨hform.1, hform.2.1⟩
 obtain ⟨hc1, hc2⟩ := hc
 unfold maxLen at hc2
 have hrow : ∀ wr, Only (· ∈ D) w wr -> ∀ k (hk : k < D.length), ∃ g, A = some ⟨g, 0, none⟩ /\ wr.cell? ⟨g, k, none⟩ = some (.pointer (some ⟨D[k], 0, none⟩)) := by
  intro wr hr k hk
  cases hA : A with
  | none =>
    have := (hform.2.2.2 (by rw [hA]; rfl)).1
    omega
  | some a =>
    obtain ⟨e1, e2, e3, cur, e4, e5, e6⟩ := hform.2.2.1 a.block (by rw [hA]; rfl)
    rw [hA] at e3
    refine ⟨a.block, e3, ?_⟩
    have hnot : ¬ a.block ∈ D := fun hm => by have := hlow _ hm; omega
    rw [(hr.cell (p := ⟨a.block, k, none⟩) e2 hnot), e4.cell]
    have := congrArg (fun l => l[k]?) e6
    simp only [Nat.mul_one, List.getElem?_take, if_pos hk, List.getElem?_map, List.getElem?_eq_getElem hk, Option.map_some] at this
    rw [<- Array.getElem?_toList]
    exact this
 have hS := zaa hs
 have HROW := zaa hrow
 have HE := zaa he
 have hq6 : q6 ∉ D := fun hm => by have := hlow _ hm; omega
 have HQ6 := zaa hq6
 have HND := zaa hnd
 clear hs hrow he hform hv ho hnd
 simp only [Array.replicate_succ, Array.replicate_zero, List.push_toArray, List.append_toArray, List.nil_append, List.cons_append, List.setIfInBounds_toArray, List.set_cons_zero, List.set_cons_succ]
 go_wp2
 go_loopw [8] (fun v wr => z1h w D s (fun j => { s j with dirty := false }) v wr) (fun v _ => D.length - (intOf v).toNat)
 case atStart => exact ⟨0, Nat.zero_le _, rfl, Half.zero hS.out, Only.refl _ _⟩
 case round =>
  obtain ⟨k, hk, rfl, hh, hon⟩ := hrel
  by_cases hlt : k < D.length
  . obtain ⟨g, rfl, hcell⟩ := HROW.out wr hon k hlt
    have hnk : zb3 wr D[k] (s k) := by have := hh k hlt; rwa [if_neg (Nat.lt_irrefl _)] at this
    obtain ⟨y, hy⟩ : ∃ y, y = D[k] := ⟨_, rfl⟩
    rw [<- hy] at hcell hnk
    have e0 : wr.cell? ⟨q6, 0, none⟩ = some .nilIface := (hon.cell (p := ⟨q6, 0, none⟩) HE.out.lt HQ6.out).trans (zab HE.out 0 rfl)
    have e1 : wr.cell? ⟨y, 2, none⟩ = some (.bool (s k).dirty) := zab hnk 2 rfl
    have e2 : wr.frozen? ⟨y, 2, none⟩ = false := Blk.frozen hnk 2
    have k0 : (0 : Int) <= (k : Int) := by omega
    have k1 : (k : Int) < (D.length : Int) := by omega
    have HH := zaa hh
    have HON := zaa hon
    have HNK := zaa hnk
    have HY := zaa hy
    clear hh hon hnk hy
    go_wp2
    go_roundw
    case rel =>
     have hO : Only (· = D[k]) wr (wr.setCell ⟨y, 2, none⟩ (.bool false)) := by rw [<- HY.out]; exact Only.set1 _ _ _ _
     refine ⟨k + 1, by omega, by go_num, HH.out.step HND.out hlt hO ?_, HON.out.trans (hO.mono fun x _ hx => by rw [hx]; exact List.getElem_mem _)⟩
     rw [<- HY.out]
     exact HNK.out.set_ 2 (.bool false)
    case measure => simp [intOf]; omega
  . have k1 : ¬ (k : Int) < (D.length : Int) := by omega
    obtain rfl : k = D.length := by omega
    have HH := zaa hh.all
    have HON := zaa hon
    clear hh hon
    go_wp2
    exact ⟨rfl, .returning, by rw [<- hu], .tuple #[], by simp [results, Tryz.results90], rfl, rfl, HH.out, HON.out⟩
end Go.Proofs.YtemondlgcmpbbaaGreatDoor
namespace Go.Proofs.YtemondlgcmpbbaaGreatDoor
set_option maxRecDepth 100000
def NS (Q : (h : Nat) -> Tr h -> Prop) : (h : Nat) -> Tr h -> Prop
 | 0, n => Q 0 n
 | h + 1, n => Q (h + 1) n /\ ∀ e ∈ Nd.es n, NS Q h e.2
def NL (Q : (h : Nat) -> Tr h -> Prop) (h : Nat) (es : List (Str × Tr h)) : Prop := ∀ e ∈ es, NS Q h e.2
structure zfq (Q : (h : Nat) -> Tr h -> Prop) : Prop where
 leaf : ∀ es, Q 0 (fresh es : Nd Str)
 branch : ∀ h es, Q (h + 1) (fresh es : Nd (Tr h))
section
variable {Q : (h : Nat) -> Tr h -> Prop}
theorem NL.app {h : Nat} {a b : List (Str × Tr h)} (ha : NL Q h a) (hb : NL Q h b) : NL Q h (a ++ b) := fun e he => (List.mem_append.1 he).elim (ha e) (hb e)
theorem zlc (q : zfq Q) : ∀ (h : Nat) (c : Tr h), NS Q h c -> NS Q h (Tr.split h c).1 /\ NS Q h (Tr.split h c).2.2
 | 0, _, _ => ⟨q.leaf _, q.leaf _⟩
 | _h + 1, _, hc => ⟨⟨q.branch _ _, fun e he => hc.2 e (List.mem_of_mem_take he)⟩, ⟨q.branch _ _, fun e he => hc.2 e (List.mem_of_mem_drop he)⟩⟩
theorem zs0 (q : zfq Q) : ∀ (h : Nat) (k2 : Str) (c d : Tr h), NS Q h c -> NS Q h d -> NS Q h (Tr.join h c k2 d)
 | 0, _, _, _, _, _ => q.leaf _
 | h + 1, k2, c, d, hc, hd => by
   refine ⟨q.branch _ _, fun e he => ?_⟩
   rcases List.mem_append.1 (show e ∈ Nd.es c ++ rekey k2 (Nd.es d) from he) with he | he
   . exact hc.2 e he
   . cases hx : Nd.es d with
     | nil => rw [hx] at he; cases he
     | cons a X =>
       rw [hx] at he
       rcases List.mem_cons.1 he with rfl | he
       . exact hd.2 a (by rw [hx]; simp)
       . exact hd.2 e (by rw [hx]; simp [he])
theorem zmg (q : zfq Q) {h : Nat} (k : Str) {c : Tr h} (hc : NS Q h c) : NL Q h (fix h k c) := by
 unfold fix
 split
 . intro e he
   simp only [List.mem_cons, List.not_mem_nil, or_false] at he
   rcases he with rfl | rfl
   . exact (zlc q h c hc).1
   . exact (zlc q h c hc).2
 . intro e he
   rw [List.mem_singleton.1 he]
   exact hc
theorem zzp (q : zfq Q) {h : Nat} {A : List (Str × Tr h)} (k : Str) {c : Tr h} {B : List (Str × Tr h)} (hA : NL Q h A) (hB : NL Q h B) (hc : NS Q h c) : NL Q h (zax h A k c B) := by
 unfold zax
 cases Tr.thin h c with
 | false => exact (hA.app (zmg q k hc)).app hB
 | true =>
   simp only [if_true]
   cases B with
   | cons d B => exact (hA.app (zmg q k (zs0 q h d.1 c d.2 hc (hB d (by simp))))).app fun e he => hB e (by simp [he])
   | nil =>
     cases hl : A.getLast? with
     | none => exact zmg q k hc
     | some b =>
       have hAe := zcq A b hl
       exact NL.app (fun e he => hA e (by rw [hAe]; simp [he])) (zmg q b.1 (zs0 q h k b.2 c (hA b (by rw [hAe]; simp)) hc))
theorem zqe (q : zfq Q) {h : Nat} {key : Str} {X : List (Str × Tr h)} {f : Tr h -> Tr h} (hX : NL Q h X) (hf : ∀ c, NS Q h c -> NS Q h (f c)) : NL Q h (zah h key X f) := by
 unfold zah
 cases hd : X.drop (below key X) with
 | nil => exact hX
 | cons e B =>
   have hm : ∀ x ∈ e :: B, x ∈ X := fun x hx => List.mem_of_mem_drop (i := below key X) (by rw [hd]; exact hx)
   exact zzp q e.1 (fun x hx => hX x (List.mem_of_mem_take hx)) (fun x hx => hX x (hm x (by simp [hx]))) (hf e.2 (hX e (hm e (by simp))))
theorem zv4 (q : zfq Q) : ∀ (h : Nat) (n : Tr h) (key v : Str), NS Q h n -> NS Q h (Tr.put h n key v)
 | 0, _, _, _, _ => q.leaf _
 | h + 1, _, key, v, hn => ⟨q.branch _ _, zqe q hn.2 fun c hc => zv4 q h c key v hc⟩
theorem zzq (q : zfq Q) (n : Tr 0) (key v : Str) : NS Q 0 (Tr.put 0 n key v) := q.leaf _
theorem zs1 (q : zfq Q) : ∀ (h : Nat) (n : Tr h) (key : Str), NS Q h n -> NS Q h (Tr.drop h n key)
 | 0, _, _, _ => q.leaf _
 | h + 1, _, key, hn => ⟨q.branch _ _, zqe q hn.2 fun c hc => zs1 q h c key hc⟩
def TN (Q : (h : Nat) -> Tr h -> Prop) (t : Tree) : Prop := ∀ h n, t.root = some ⟨h, n⟩ -> NS Q h n
theorem TN.empty : TN Q ⟨none, 0⟩ := fun _ _ h => by cases h
theorem zs2 (q : zfq Q) (h : Nat) (n : Tr h) (hn : NS Q h n) : NS Q (za5 h n).1 (za5 h n).2 := by
 unfold za5
 obtain ⟨s1, s2⟩ := zlc q h n hn
 by_cases hf : Tr.full h n = true
 . rw [if_pos hf]
   refine ⟨q.branch _ _, fun e he => ?_⟩
   have he : e ∈ [(ByteArray.empty, (Tr.split h n).1), ((Tr.split h n).2.1, (Tr.split h n).2.2)] := he
   simp only [List.mem_cons, List.not_mem_nil, or_false] at he
   rcases he with rfl | rfl
   . exact s1
   . exact s2
 . rw [if_neg hf]
   exact hn
theorem TN.put (q : zfq Q) {t : Tree} (ht : TN Q t) (key v : Str) : TN Q (t.put key v) := by
 intro h' n' hr
 cases hx : t.root with
 | none =>
   have : (t.put key v).root = some (za5 0 (Tr.put 0 zbc key v)) := by unfold Tree.put; rw [hx]
   rw [this] at hr
   have := zs2 q 0 _ (zzq q zbc key v)
   rw [Option.some.inj hr] at this
   exact this
 | some x =>
   have : (t.put key v).root = some (za5 x.1 (Tr.put x.1 x.2 key v)) := by unfold Tree.put; rw [hx]
   rw [this] at hr
   have := zs2 q x.1 _ (zv4 q x.1 x.2 key v (ht x.1 x.2 hx))
   rw [Option.some.inj hr] at this
   exact this
theorem znw : ∀ (h : Nat) (n : Tr h), NS Q h n -> NS Q (shrink h n).1 (shrink h n).2
 | 0, _, hn => hn
 | h + 1, n, hn => by
   cases hx : Nd.es n with
   | nil =>
     have : shrink (h + 1) n = ⟨h + 1, n⟩ := by unfold shrink; rw [hx]
     rw [this]; exact hn
   | cons e X =>
     cases X with
     | nil =>
       rw [zeb hx]
       exact znw h e.2 (hn.2 e (by rw [hx]; simp))
     | cons d X =>
       rw [ze6 hx]
       exact hn
theorem TN.delete (q : zfq Q) {t : Tree} (ht : TN Q t) (key : Str) : TN Q (t.delete key) := by
 unfold Tree.delete
 cases hr : t.root with
 | none => exact ht
 | some x =>
   obtain ⟨h, n⟩ := x
   simp only
   split
   . intro h' n' hr'
     simp only at hr'
     split at hr'
     . cases hr'
     . have := znw h _ (zs1 q h n key (ht h n hr))
       rw [Option.some.inj hr'] at this
       exact this
   . exact ht
end
/-! ### the dirty nodes -/
def dlist : (h : Nat) -> Tr h -> List ((h : Nat) × Tr h)
 | 0, n => if Nd.dirty n then [⟨0, n⟩] else []
 | h + 1, n => ((Nd.es n).flatMap fun e => dlist h e.2) ++ if Nd.dirty n then [⟨h + 1, n⟩] else []
def Tree.dlist (t : Tree) : List ((h : Nat) × Tr h) := match t.root with | none => [] | some r => Proofs.YtemondlgcmpbbaaGreatDoor.dlist r.1 r.2
theorem zid {Q : (h : Nat) -> Tr h -> Prop} : ∀ (h : Nat) (n : Tr h), NS Q h n -> ∀ x ∈ dlist h n, NS Q x.1 x.2
 | 0, n, hn => by
   intro x hx
   unfold dlist at hx
   split at hx
   . rw [List.mem_singleton.1 hx]; exact hn
   . cases hx
 | h + 1, n, hn => by
   intro x hx
   rcases List.mem_append.1 (show x ∈ ((Nd.es n).flatMap fun e => dlist h e.2) ++ (if Nd.dirty n then [⟨h + 1, n⟩] else []) from hx) with hx | hx
   . obtain ⟨e, he, hx⟩ := List.mem_flatMap.1 hx
     exact zid h e.2 (hn.2 e he) x hx
   . split at hx
     . rw [List.mem_singleton.1 hx]; exact hn
     . cases hx
theorem NS.here {Q : (h : Nat) -> Tr h -> Prop} : ∀ {h : Nat} {n : Tr h}, NS Q h n -> Q h n
 | 0, _, hn => hn
 | _ + 1, _, hn => hn.1
theorem NS.mono {Q R : (h : Nat) -> Tr h -> Prop} (hQ : ∀ h n, Q h n -> R h n) : ∀ {h : Nat} {n : Tr h}, NS Q h n -> NS R h n
 | 0, _, hn => hQ _ _ hn
 | _ + 1, _, hn => ⟨hQ _ _ hn.1, fun e he => NS.mono hQ (hn.2 e he)⟩
theorem NS.and {Q R : (h : Nat) -> Tr h -> Prop} : ∀ {h : Nat} {n : Tr h}, NS Q h n -> NS R h n -> NS (fun h n => Q h n /\ R h n) h n
 | 0, _, hn, hm => ⟨hn, hm⟩
 | _ + 1, _, hn, hm => ⟨⟨hn.1, hm.1⟩, fun e he => NS.and (hn.2 e he) (hm.2 e he)⟩
theorem zjb : ∀ (h : Nat) (n : Tr h), Fit h n -> NS (fun h n => Tr.size h n <= 116) h n
 | 0, _, hn => hn
 | h + 1, _n, hn => ⟨Fit.size _ _ hn, fun e he => zjb h e.2 (hn.2 e he)⟩
def zc4 (h : Nat) (n : Tr h) : Prop := Tr.blk h n < 65536 /\ Tr.gen h n < 4294967296
theorem zv5 : zfq zc4 := ⟨fun _ => ⟨by show 0 < 65536; omega, by show 0 < 4294967296; omega⟩, fun _ _ => ⟨by show 0 < 65536; omega, by show 0 < 4294967296; omega⟩⟩
end Go.Proofs.YtemondlgcmpbbaaGreatDoor
namespace Go.Proofs.YtemondlgcmpbbaaGreatDoor
open Go.RowKit
set_option maxRecDepth 100000
theorem FRep.nodeAt {ok : Nat -> Prop} {w : World} : ∀ {h : Nat} {t : Tr h} {b : Nat} {ds : List Nat}, FRep ok w h t b ds -> ∃ pv kv, NodeAt w b (Tr.blk h t) (Tr.gen h t) (Tr.dirty h t) pv kv
 | 0, _, _, _, ⟨_, _, _, _, hn, _⟩ => ⟨_, _, hn.node⟩
 | _ + 1, _, _, _, ⟨_, _, _, _, _, _, hn, _⟩ => ⟨_, _, hn.node⟩
theorem zv6 {ok : Nat -> Prop} (h : Nat) (n : Tr h) (b : Nat) (ds : List Nat) (w : World) (hf : FRep ok w h n b ds) (hs : Tr.size h n <= 116) (h1 : h = 0 \/ 1 <= Tr.len h n) (hq : NS zc4 h n) :
   Calls Tryz.prog 93 #[P b] w fun e w' => ∃ g, e = .returned (.slice (some ⟨g, 0, none⟩) 128 128) /\ Blk w' g 5 (bc (nby h n)).toArray /\ w.heap.size <= g /\ Below w.heap.size w w' := by
 cases h with
 | zero =>
   obtain ⟨A1, c1, A2, c2, hn, _, _, _⟩ := hf
   exact zt7 (Nd.es n) b (Nd.blk n) (Nd.gen n) c1 c2 (Nd.dirty n) A1 A2 w hn hs hq.2 hq.1
 | succ h =>
   obtain ⟨A1, c1, A2, c2, bs, dss, hn, _, _, hk, _⟩ := hf
   have hl := hk.len
   refine zpm (Tr.blk h) (Tr.gen h) (Nd.es n) bs b (Nd.blk n) (Nd.gen n) c1 c2 (Nd.dirty n) A1 A2 w hn hl.1 (h1.elim (fun h => by cases h) id) hs hq.1.2 hq.1.1 fun j hj hj2 => ?_
   have hkj := hk.at_ j hj hj2 (by omega)
   obtain ⟨pv, kv, hnk⟩ := hkj.nodeAt
   have hq2 := (hq.2 _ (List.getElem_mem hj)).here
   exact ⟨⟨_, pv, kv, hnk⟩, hq2.1, hq2.2⟩
def All2 {α β : Type} (R : α -> β -> Prop) : List α -> List β -> Prop
 | [], [] => True
 | a :: l, b :: m => R a b /\ All2 R l m
 | _, _ => False
section
variable {α β : Type} {R : α -> β -> Prop}
theorem All2.len : ∀ {l : List α} {m : List β}, All2 R l m -> l.length = m.length
 | [], [], _ => rfl
 | _ :: _, _ :: _, h => by simp [All2.len h.2]
 | [], _ :: _, h => h.elim
 | _ :: _, [], h => h.elim
theorem All2.app : ∀ {l l' : List α} {m m' : List β}, All2 R l m -> All2 R l' m' -> All2 R (l ++ l') (m ++ m')
 | [], _, [], _, _, h => h
 | _ :: _, _, _ :: _, _, h, k => ⟨h.1, All2.app h.2 k⟩
 | [], _, _ :: _, _, h, _ => h.elim
 | _ :: _, _, [], _, h, _ => h.elim
theorem All2.at_ : ∀ {l : List α} {m : List β}, All2 R l m -> ∀ j (hj : j < l.length) (hj2 : j < m.length), R l[j] m[j]
 | _ :: _, _ :: _, h, 0, _, _ => h.1
 | _ :: _, _ :: _, h, j + 1, hj, hj2 => All2.at_ h.2 j (by simpa using hj) (by simpa using hj2)
 | [], [], _, _, hj, _ => by simp at hj
 | [], _ :: _, h, _, _, _ => h.elim
 | _ :: _, [], h, _, _, _ => h.elim
end
theorem RepL.dl {h : Nat} {R : Tr h -> Nat -> List Nat -> Prop} {S : Nat -> ((h : Nat) × Tr h) -> Prop} (hR : ∀ k b d, R k b d -> All2 S d (dlist h k)) : ∀ {es : List (Str × Tr h)} {bs : List Nat} {dss : List (List Nat)}, RepL R es bs dss -> All2 S dss.flatten (es.flatMap fun e => dlist h e.2)
 | [], [], [], _ => trivial
 | e :: es, _ :: _, d :: dss, hk => by
   rw [List.flatten_cons, List.flatMap_cons]
   exact (hR _ _ _ hk.1).app (RepL.dl hR hk.2)
 | [], [], _ :: _, h => h.elim
 | [], _ :: _, _, h => h.elim
 | _ :: _, [], _, h => h.elim
 | _ :: _, _ :: _, [], h => h.elim
def DLR (ok : Nat -> Prop) (w : World) (y : Nat) (x : (h : Nat) × Tr h) : Prop := ∃ ds', FRep ok w x.1 x.2 y ds'
theorem FRep.dl {ok : Nat -> Prop} {w : World} : ∀ {h : Nat} {t : Tr h} {b : Nat} {ds : List Nat}, FRep ok w h t b ds -> All2 (DLR ok w) ds (dlist h t)
 | 0, t, b, ds, hf => by
   have hf' := hf
   obtain ⟨A1, c1, A2, c2, hn, _, _, hd⟩ := hf
   subst hd
   show All2 (DLR ok w) (zaf (Nd.dirty t) b) (if Nd.dirty t then [⟨0, t⟩] else [])
   cases hdt : Nd.dirty t with
   | false => exact trivial
   | true => exact ⟨⟨_, hf'⟩, trivial⟩
 | h + 1, t, b, ds, hf => by
   have hf' := hf
   obtain ⟨A1, c1, A2, c2, bs, dss, hn, _, _, hk, hd⟩ := hf
   subst hd
   show All2 (DLR ok w) (dss.flatten ++ zaf (Nd.dirty t) b) (((Nd.es t).flatMap fun e => dlist h e.2) ++ if Nd.dirty t then [⟨h + 1, t⟩] else [])
   refine (RepL.dl (R := FRep ok w h) (S := DLR ok w) (fun _ _ _ hr => FRep.dl hr) hk).app ?_
   cases hdt : Nd.dirty t with
   | false => exact trivial
   | true => exact ⟨⟨_, hf'⟩, trivial⟩
theorem TreeV.dl {ok : Nat -> Prop} {w : World} {t : Tree} {rp : Value} {ds : List Nat} (h : TreeV ok w t rp ds) : All2 (DLR ok w) ds t.dlist := by
 rcases h with ⟨e1, _, rfl⟩ | ⟨h, n, b, e1, _, e3⟩
 . unfold Tree.dlist; rw [e1]; trivial
 . unfold Tree.dlist; rw [e1]; exact e3.dl
end Go.Proofs.YtemondlgcmpbbaaGreatDoor
