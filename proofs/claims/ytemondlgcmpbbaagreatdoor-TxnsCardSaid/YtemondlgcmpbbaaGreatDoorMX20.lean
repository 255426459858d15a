/- Ws Fn Es: merged. -/
import Derived.Test.YtemondlgcmpbbaaGreatDoorMX19
import Derived.Test.YtemondlgcmpbbaaGreatDoorMX02
import Derived.Deep.LoopGhost
import Derived.BigQuiet
namespace Go.Proofs.YtemondlgcmpbbaaGreatDoor
open Go.RowKit
set_option maxRecDepth 100000
def TreeV (ok : Nat -> Prop) (w : World) (t : Tree) (rp : Value) (ds : List Nat) : Prop := (t.root = none /\ rp = .pointer none /\ ds = []) \/ ∃ h n b, t.root = some ⟨h, n⟩ /\ rp = P b /\ FRep ok w h n b ds
def za0 (rp : Value) (keys : Nat) : Value := .agg #[rp, .int .i64 keys]
theorem TreeV.move {ok ok' : Nat -> Prop} {w w' : World} {t : Tree} {rp : Value} {ds : List Nat} (h : TreeV ok w t rp ds) (ha : Agree ok w w') (hs : ∀ x, ok x -> ok' x) : TreeV ok' w' t rp ds :=
 h.imp id fun ⟨h, n, b, e1, e2, e3⟩ => ⟨h, n, b, e1, e2, e3.move ha hs⟩
theorem TreeV.below {ok ok' : Nat -> Prop} {w w' : World} {t : Tree} {rp : Value} {ds : List Nat} (h : TreeV ok w t rp ds) (hb : Below w.heap.size w w') (hs : ∀ x, ok x -> ok' x) : TreeV ok' w' t rp ds :=
 h.imp id fun ⟨h, n, b, e1, e2, e3⟩ => ⟨h, n, b, e1, e2, e3.below hb hs⟩
theorem TreeV.ds {ok : Nat -> Prop} {w : World} {t : Tree} {rp : Value} {ds : List Nat} (h : TreeV ok w t rp ds) : ∀ x ∈ ds, ok x /\ x < w.heap.size := by
 rcases h with ⟨_, _, rfl⟩ | ⟨h, n, b, _, _, hf⟩
 . intro x hx; cases hx
 . exact FRep.ds hf
def zgp (r : Option Str) : Value := .tuple #[.string (r.getD ByteArray.empty), .bool r.isSome]
theorem zq9 {key v : Str} {es : List (Str × Str)} (h : zbs key es = some v) (hl : place key es < es.length) : es[place key es].2 = v := by
 unfold zbs at h
 rw [List.drop_eq_getElem_cons hl] at h
 simp only at h
 split at h
 . exact Option.some.inj h
 . cases h
def zme (key : Str) (res : Option Str) (w : World) (k : Nat) (p : Value) (wr : World) : Prop :=
 ∃ (n : Tr k) (b : Nat) (ds : List Nat) (lo : Str) (hi : Option Str), p = P b /\ FRep (fun _ => True) wr k n b ds /\ WF k lo hi n /\ Top k n /\ slt key lo = false /\ Tr.get k n key = res /\ (Tr.pairs k n).length <= 150 /\ Below w.heap.size w wr
theorem zsp (keys : Nat) (key : Str) (w : World) : Calls Tryz.prog 56 #[za0 (.pointer none) keys, .string key] w fun e w' => e = .returned (zgp none) /\ Below w.heap.size w w' := by
 have hb0 : Below w.heap.size w (w.alloc (.cells #[.pointer none, .int .i64 keys] 88)) := (Below.refl _ _).alloc (Nat.le_refl _) _
 unfold za0
 go_enter Tryz.func56, Tryz.ntmps56
 go_wp2
 refine wp_loop_rounds 1 ?_
 rw [rounds_succ]
 go_wp2
 go_ret2
 exact ⟨rfl, hb0⟩
set_option maxHeartbeats 1600000 in
theorem zsq (keys h b : Nat) (n : Tr h) (ds : List Nat) (key : Str) (w : World) (hf : FRep (fun _ => True) w h n b ds) (hw : WF h zbz none n) (ht : Top h n) (hp : (Tr.pairs h n).length <= 150) :
   Calls Tryz.prog 56 #[za0 (P b) keys, .string key] w fun e w' => e = .returned (zgp (Tr.get h n key)) /\ Below w.heap.size w w' := by
 have hb0 : Below w.heap.size w (w.alloc (.cells #[P b, .int .i64 keys] 88)) := (Below.refl _ _).alloc (Nat.le_refl _) _
 have hst : zme key (Tr.get h n key) w h (P b) (w.alloc (.cells #[P b, .int .i64 keys] 88)) := ⟨n, b, ds, _, _, rfl, hf.below hb0 (fun _ h => h), hw, ht, za5 key, rfl, hp, hb0⟩
 obtain ⟨res, hres⟩ : ∃ r, r = Tr.get h n key := ⟨_, rfl⟩
 rw [<- hres] at hst ⊢
 have HST := zaa hst
 clear hf hw ht hp hst hb0 hres
 unfold za0 P
 unfold P at HST
 go_enter Tryz.func56, Tryz.ntmps56
 go_wp2
 go_loopg [6] h (fun k p wr => zme key res w k p wr)
 case atStart => exact HST.out
 case round =>
  obtain ⟨n, b, ds, lo, hi, rfl, hf, hw, ht, hk, hg, hp, hb⟩ := hrel
  cases gk with
  | zero =>
    obtain ⟨A1, c1, A2, c2, hnd, _, _, _⟩ := hf
    have LEAF := zaa (zdq b (Nd.blk n) (Nd.gen n) c2 (Nd.dirty n) _ A2 wr hnd.node)
    have PLACE := zaa (zft n key b _ wr (show Rep wr 0 n b (zb2 (Nd.dirty n) b) from ⟨_, _, hnd.node, hnd.ps, hnd.ks, rfl⟩) hw.1 (Nat.le_trans hp (by omega)))
    have hblt : b < wr.heap.size := Blk.lt hnd.node
    have hgl : zbs key (Nd.es n) = res := hg
    obtain ⟨es, hes⟩ : ∃ es, es = Nd.es n := ⟨_, rfl⟩
    rw [<- hes] at hgl PLACE
    have hlk : there key es = res.isSome := by rw [zcw, hgl]
    have hat := fun h => hnd.ps.cells_at (Below.refl wr.heap.size wr) (k := place key es) h
    rw [<- hes] at hat
    have c3 : wr.cell? ⟨b, 3, none⟩ = some (.slice A1 es.length c1) := by rw [Blk.cell hnd.node, hes]; rfl
    have hpe := zcz es (place key es)
    have hlt := zio (key := key) (es := es)
    obtain ⟨i, hi'⟩ : ∃ i, i = place key es := ⟨_, rfl⟩
    rw [<- hi'] at hat hpe hlt PLACE
    rw [hlk] at hlt PLACE
    have HG := zaa hgl
    have HI := zaa hi'
    have HB := zaa hb
    have HND := zaa hnd
    clear hw ht hk hg hp hb hnd hgl hi' hlk HST hes
    unfold P at *
    cases res with
    | none =>
      go_wp2_with (first
       | (go_at_call 81; refine LEAF.out.mono ?_; rintro e w' ⟨rfl, rfl⟩)
       | (go_at_call 83; refine PLACE.out.mono ?_; rintro e w2 ⟨rfl, hb2⟩))
      go_ret2
      exact ⟨rfl, HB.out.trans (hb2.mono HB.out.size)⟩
    | some v =>
      have hlt' := hlt rfl
      obtain ⟨g, o, u1, u2, rfl, hu1, hu2, hc1, hc2, hgl⟩ := hat hlt'
      have hv : es[i].2 = v := by
       have := zq9 HG.out (by rw [<- HI.out]; exact hlt')
       simpa [HI.out] using this
      have e2 := hu2.symm.trans (hpe hlt').2
      injection e2 with e2
      subst e2
      rw [hv] at hc2
      have k1 : (0 : Int) <= (i : Int) := by omega
      have k2 : (i : Int) < (es.length : Int) := by omega
      clear hat hpe hlt hu1 hu2 hv
      go_wp2_with (first
       | (go_at_call 81; refine LEAF.out.mono ?_; rintro e w' ⟨rfl, rfl⟩)
       | (go_at_call 83; go_loud (
          refine PLACE.out.mono ?_; rintro e w2 ⟨rfl, hb2⟩
          have d3 : w2.cell? ⟨b, 3, none⟩ = some (.slice (some ⟨g, o, none⟩) es.length c1) := (hb2.cell hblt).trans c3
          have d4 : w2.cell? ⟨g, o + i * 2 + 1, none⟩ = some (.string v) := (hb2.cell hgl).trans hc2)))
      go_ret2
      exact ⟨rfl, HB.out.trans (hb2.mono HB.out.size)⟩
  | succ k =>
    obtain ⟨A1, c1, A2, c2, bs, dss, hnd, _, _, hkk, _⟩ := hf
    have hc0 : Chain (WF k) lo hi (Nd.es n) := hw
    obtain ⟨A, ⟨kk, c⟩, B, hX, hl, h5, h6⟩ := zde hc0 hk
    have hlen : (Nd.es n).length <= 150 := Nat.le_trans (zed (k + 1) lo hi n hw ht).2.1 hp
    have hAl : A.length < (Nd.es n).length := by rw [hX]; simp
    have hbsl := hkk.len.1
    have hwc : WF k kk (zch hi B) c := by
     rw [hX] at hc0
     exact (zci hc0).1
    have htc : Top k c := zfa ht (kk, c) (by rw [hX]; simp)
    have hpc : (Tr.pairs k c).length <= 150 := Nat.le_trans (zdv (es := Nd.es n) (kk, c) (by rw [hX]; simp)) hp
    have hgc : Tr.get k c key = res := by
     rw [<- hg]
     show _ = (match (Nd.es n).drop (below key (Nd.es n)) with | [] => none | e :: _ => Tr.get k e.2 key)
     rw [hl, hX, List.drop_left]
    have hk2 := hkk
    rw [hX] at hk2
    obtain ⟨bp, bc, bq, dp, dc, dq, hbs, hds, l1, l2, r1, r2, r3⟩ := RepL.cut hk2
    obtain ⟨g, o, u1, u2, rfl, hu1, hu2, hc1, hc2, hgl⟩ := hnd.ks.cells_at (Below.refl wr.heap.size wr) (k := A.length) hAl
    have hkc := (zco (Nd.es n) bs A.length hAl (by omega)).2
    have hbc : bs[A.length]'(by omega) = bc := by
     subst hbs
     rw [List.getElem_append_right (by omega)]
     simp [l1]
    rw [hbc] at hkc
    have e2 := hu2.symm.trans hkc
    injection e2 with e2
    subst e2
    have c4 : wr.cell? ⟨b, 4, none⟩ = some (.slice (some ⟨g, o, none⟩) (Nd.es n).length c2) := by rw [Blk.cell hnd.node]; rfl
    have LEAF := zaa (zee b (Nd.blk n) (Nd.gen n) (Nd.es n).length c2 (Nd.dirty n) _ _ wr hnd.node (by omega) (by omega))
    have BELOW := zaa (fun q => zfs (Nd.es n) bs key b (Nd.blk n) (Nd.gen n) c2 (Nd.dirty n) _ _ (wr.drewN q)
     (hnd.move (Agree.of_below (zam (Below.refl wr.heap.size wr) q) (fun _ hx => hx)) (Blk.lt hnd.node) (rowOk.zero _ _) hnd.ks.row_lt).node
     (hnd.move (Agree.of_below (zam (Below.refl wr.heap.size wr) q) (fun _ hx => hx)) (Blk.lt hnd.node) (rowOk.zero _ _) hnd.ks.row_lt).ks hbsl (by omega) (by omega))
    rw [hl] at BELOW
    obtain ⟨i, hi'⟩ : ∃ i, i = A.length := ⟨_, rfl⟩
    rw [<- hi'] at BELOW hc2 hAl
    obtain ⟨N, hN⟩ : ∃ N, N = (Nd.es n).length := ⟨_, rfl⟩
    rw [<- hN] at c4 hAl
    have k1 : (0 : Int) <= (i : Int) := by omega
    have k2 : (i : Int) < (N : Int) := by omega
    have HREL := zaa (show ∀ q, zme key res w k (P bc) (wr.drewN q) from fun q => ⟨c, bc, dc, kk, zch hi B, rfl, r2.below (zam (Below.refl _ _) q) (fun _ h => h), hwc, htc, h5, hgc, hpc, hb.trans ((zam (Below.refl _ _) q).mono hb.size)⟩)
    have HREL' := HREL
    clear hw ht hk hg hp hb hnd hkk hc0 hX hl h5 h6 hbsl hwc htc hpc hgc hk2 hbs hds l1 l2 r1 r2 r3 hu1 hu2 hc1 hkc hbc HST hi' hN HREL'
    unfold P at *
    go_upto_region 3 with (first | (go_at_call 81; refine LEAF.out.mono ?_; rintro e w' ⟨rfl, rfl⟩))
    go_quiet (first | (go_at_call 82; exact zcm (BELOW.out _)))
    go_wp2
    go_roundg k
    case measure => omega
    case rel => exact HREL.out _
theorem zfb {ok : Nat -> Prop} (t : Tree) (rp : Value) (ds : List Nat) (key : Str) (w : World) (hv : TreeV ok w t rp ds) (ht : TR t) (hp : t.pairs.length <= 150) :
   Calls Tryz.prog 56 #[za0 rp t.keys, .string key] w fun e w' => e = .returned (zgp (t.get key)) /\ Below w.heap.size w w' := by
 rcases hv with ⟨hr, rfl, _⟩ | ⟨h, n, b, hr, rfl, hf⟩
 . have : t.get key = none := by unfold Tree.get; rw [hr]
   rw [this]
   exact zsp _ _ _
 . have : t.get key = Tr.get h n key := by unfold Tree.get; rw [hr]
   rw [this]
   have hpp : t.pairs = Tr.pairs h n := by unfold Tree.pairs; rw [hr]
   exact zsq _ _ _ n ds key w (hf.more fun _ _ => trivial) (ht.tw.some_ h n hr) (ht.top h n hr) (by rw [<- hpp]; exact hp)
theorem zkq {α : Type} {l : List α} {k : Nat} (h : k < l.length) : l.take (k + 1) = l.take k ++ [l[k]] := by
 rw [List.take_add_one, List.getElem?_eq_getElem h]; rfl
theorem Below.from_alloc {n₀ : Nat} {W w w' : World} {o : Obj} (h : Below n₀ (w.alloc o) w') (_hb : Below n₀ W w) (hn : n₀ <= w.heap.size) : Below n₀ w w' := ((Below.refl n₀ w).alloc hn o).trans h
def zb4 (t : Tree) (lo : Str) : List (Str × Str) := t.pairs.drop (place lo t.pairs)
def zmf (n₀ : Nat) (J Jx : List (Str × Str) -> World -> Prop) (pre : List (Str × Str)) (x : Str × Str) (W : World) : Ending -> World -> Prop := fun e W' =>
 (e = .returned (.bool true) /\ J (pre ++ [x]) W' /\ Below n₀ W W') \/ (e = .returned (.bool false) /\ Jx (pre ++ [x]) W')
def zjl (n₀ : Nat) (J Jx : List (Str × Str) -> World -> Prop) (pre xs : List (Str × Str)) (W : World) : Ending -> World -> Prop := fun e W' =>
 (e = .returned (.bool true) /\ J (pre ++ xs) W' /\ Below n₀ W W') \/ (e = .returned (.bool false) /\ ∃ q, q <+: xs /\ Jx (pre ++ q) W')
def zvo (n₀ : Nat) (J : List (Str × Str) -> World -> Prop) (pre xs : List (Str × Str)) (W : World) (N : Nat) (s : Value) (wr : World) : Prop :=
 ∃ k : Nat, k <= N /\ s = .int .i64 k /\ J (pre ++ xs.take k) wr /\ Below n₀ W wr
section
variable {n₀ : Nat} {L : List (Str × Str)} {J Jx : List (Str × Str) -> World -> Prop} {q1 q2 : Nat}
set_option maxHeartbeats 1600000 in
theorem zpj (hJ : ∀ pre W W', J pre W -> Below W.heap.size W W' -> J pre W') (hY : ∀ pre x W, J pre W -> pre ++ [x] <+: L -> n₀ <= W.heap.size -> Calls Tryz.prog 141 #[.agg #[.string x.1, .string x.2], .pointer (some ⟨q1, 0, none⟩), .pointer (some ⟨q2, 0, none⟩)] W (zmf n₀ J Jx pre x W))
   (n : Tr 0) (lo : Str) (b : Nat) (ds : List Nat) (pre : List (Str × Str)) (W : World) (hf : FRep (fun z => z < n₀) W 0 n b ds) (hr : zcs (Nd.es n)) (h1 : 1 <= (Nd.es n).length) (hn : (Nd.es n).length <= 400) (hL : pre ++ (Nd.es n).drop (place lo (Nd.es n)) <+: L) (h0 : J pre W) (hn0 : n₀ <= W.heap.size) :
   Calls Tryz.prog 145 #[P b, .string lo, .func (.func 141) #[] #[.pointer (some ⟨q1, 0, none⟩), .pointer (some ⟨q2, 0, none⟩)]] W (zjl n₀ J Jx pre ((Nd.es n).drop (place lo (Nd.es n))) W) := by
 obtain ⟨A1, c1, A2, c2, hnd, hbn, hro, hds⟩ := hf
 have LEAF := zaa (zdq b (Nd.blk n) (Nd.gen n) c2 (Nd.dirty n) _ A2 W hnd.node)
 have PLACE := zaa (zft n lo b _ W (show Rep W 0 n b ds from ⟨_, _, hnd.node, hnd.ps, hnd.ks, hds⟩) hr (Nat.le_trans hn (by omega)))
 obtain ⟨es, hes⟩ : ∃ es, es = Nd.es n := ⟨_, rfl⟩
 rw [<- hes] at hnd PLACE hr h1 hn hro hL ⊢
 have hat : ∀ wr, Below n₀ W wr -> ∀ j (hj : j < es.length), ∃ g o, A1 = some ⟨g, o, none⟩ /\ wr.cell? ⟨g, o + j * 2, none⟩ = some (.string es[j].1) /\ wr.cell? ⟨g, o + j * 2 + 1, none⟩ = some (.string es[j].2) := by
  intro wr hb j hj
  obtain ⟨g, o, u1, u2, hA, hu1, hu2, hc1, hc2, hgl⟩ := hnd.ps.cells_at (Below.refl W.heap.size W) hj
  have hp := zcz es j hj
  have e1 := hu1.symm.trans hp.1
  have e2 := hu2.symm.trans hp.2
  injection e1 with e1
  injection e2 with e2
  subst e1; subst e2
  have hg0 : g < n₀ := hro (by omega) _ hA
  exact ⟨g, o, hA, (hb.cell (p := ⟨g, o + j * 2, none⟩) hg0).trans hc1, (hb.cell (p := ⟨g, o + j * 2 + 1, none⟩) hg0).trans hc2⟩
 obtain ⟨g, o, hA, _, _⟩ := hat W (Below.refl _ _) 0 (by omega)
 subst hA
 have hc3 : W.cell? ⟨b, 3, none⟩ = some (.slice (some ⟨g, o, none⟩) es.length c1) := by rw [Blk.cell hnd.node]; rfl
 have hcap : es.length <= c1 /\ c1 <= maxLen := by
  obtain ⟨_, _, _, hv, e1, e2, _⟩ := hnd.ps
  injection hv with _ _ e3
  subst e3
  exact ⟨e1, e2⟩
 have hblt : b < W.heap.size := Blk.lt hnd.node
 have hpl := zdo lo es
 obtain ⟨i, hi⟩ : ∃ i, i = place lo es := ⟨_, rfl⟩
 obtain ⟨th, hth⟩ : ∃ th, th = there lo es := ⟨_, rfl⟩
 rw [<- hi] at PLACE hpl hL ⊢
 rw [<- hth] at PLACE
 obtain ⟨hcap1, hcap2⟩ := hcap
 have hml := hcap2
 unfold maxLen at hml
 have HAT := zaa hat
 have HY := zaa hY
 have HJ := zaa hJ
 have H0 := zaa h0
 have HLEN := zaa (show es.length = i + (es.length - i) by omega)
 have HDL := zaa (show (es.drop i).length = es.length - i by simp)
 have HL := zaa hL
 clear hnd hro hds hat hY hJ h0 hi hth hr hes hL
 have k0 : (0 : Int) <= (i : Int) := by omega
 have k1 : (i : Int) <= (es.length : Int) := by omega
 have k2 : (es.length : Int) <= (c1 : Int) := by omega
 have k3 : (i : Int) <= (c1 : Int) := by omega
 unfold P
 go_enter Tryz.func145, Tryz.ntmps145
 go_upto_region 3 with (first
  | (go_at_call 81; go_loud (refine LEAF.out.mono ?_; rintro e w' ⟨rfl, rfl⟩))
  | (go_at_call 83; go_loud (
     refine PLACE.out.mono ?_; rintro e w2 ⟨rfl, hb2⟩
     have d3 : w2.cell? ⟨b, 3, none⟩ = some (.slice (some ⟨g, o, none⟩) es.length c1) := (hb2.cell hblt).trans hc3
     have HB2 := zaa hb2)))
 go_cut [26, 27, 28] (fun s26 s27 s28 wx => ∃ O, (i < es.length -> O = o + i * 2) /\ s26 = .slice (some ⟨g, O, none⟩) (es.length - i) (c1 - i) /\ s27 = .int .i64 ((es.length - i : Nat) : Int) /\ s28 = .int .i64 0 /\ wx = w2)
 case first =>
  go_wp2
  all_goals
   go_meet
   first
    | exact ⟨o + i * 2, fun _ => rfl, rfl, rfl, rfl, rfl⟩
    | (refine ⟨o, fun h => by omega, ?_, rfl, rfl, rfl⟩; simp; omega)
 case rest =>
 obtain ⟨O, hO, rfl, rfl, rfl, rfl⟩ := hcut
 obtain ⟨N, hN⟩ : ∃ N, N = es.length - i := ⟨_, rfl⟩
 rw [<- hN]
 obtain ⟨C, hC⟩ : ∃ C, C = c1 - i := ⟨_, rfl⟩
 rw [<- hC]
 have HO := zaa hO
 have HN := zaa hN
 have HC := zaa hC
 have hNC : N <= C := by omega
 have hN4 : N <= 400 := by omega
 clear hO hN hC
 go_wp2
 go_loopw [28] (fun s wr => zvo n₀ J pre (es.drop i) W N s wr) (fun s _ => N - (intOf s).toNat)
 case atStart => exact ⟨0, Nat.zero_le _, rfl, by simpa using HJ.out pre _ _ H0.out HB2.out, HB2.out.mono hn0⟩
 case round =>
  obtain ⟨k, hk, rfl, hj, hb⟩ := hrel
  by_cases hlt : k < N
  . have hik : i + k < es.length := by have := HN.out; omega
    obtain ⟨g', o', e1, e2, e3⟩ := HAT.out wr hb (i + k) (by have := HN.out; omega)
    injection e1 with e1
    injection e1 with e1 e4
    subst e1; subst e4
    have hOk := HO.out (by have := HN.out; omega)
    have r1 : wr.cell? ⟨g, O + k * 2, none⟩ = some (.string es[i + k].1) := by rw [hOk, Nat.add_assoc, <- Nat.add_mul]; exact e2
    have r2 : wr.cell? ⟨g, O + k * 2 + 1, none⟩ = some (.string es[i + k].2) := by rw [hOk, Nat.add_assoc o, <- Nat.add_mul]; exact e3
    obtain ⟨x, hx⟩ : ∃ x, x = es[i + k] := ⟨_, rfl⟩
    rw [<- hx] at r1 r2
    have hal : Below wr.heap.size wr (wr.alloc (.cells #[.string x.1, .string x.2] 68)) := (Below.refl _ _).alloc (Nat.le_refl _) _
    have m0 : (0 : Int) <= (k : Int) := by omega
    have m1 : (k : Int) < (N : Int) := by omega
    have hsn : (es.drop i).take (k + 1) = (es.drop i).take k ++ [x] := by
     rw [zkq (by rw [List.length_drop]; have := HN.out; omega), hx]
     simp
    have hpx : (pre ++ (es.drop i).take k) ++ [x] <+: L := by
     rw [List.append_assoc, <- hsn]
     exact ((List.prefix_append_right_inj _).2 (List.take_prefix _ _)).trans HL.out
    have YC := zaa (HY.out _ x _ (HJ.out _ _ _ hj hal) hpx (Nat.le_trans hn0 (Nat.le_trans hb.size hal.size)))
    have HSN := zaa hsn
    have HX := zaa hx
    have HBR := zaa hb
    clear hj hb e2 e3 hx hOk hsn hpx
    go_wp2_with (first
     | (go_at_call 141; go_loud (refine YC.out.mono ?_; rintro e w3 (⟨rfl, hj3, hb3⟩ | ⟨rfl, hx3⟩))))
    . go_roundw
      case rel =>
       refine ⟨k + 1, by omega, by go_num, ?_, HBR.out.trans (Below.from_alloc hb3 HBR.out (Nat.le_trans hn0 HBR.out.size))⟩
       rw [HSN.out, <- List.append_assoc]
       exact hj3
      case measure => simp [intOf]; omega
    . go_ret
      right
      refine ⟨rfl, (es.drop i).take k ++ [x], ?_, by rw [<- List.append_assoc]; exact hx3⟩
      rw [<- HSN.out]
      exact List.take_prefix _ _
  . have m1 : ¬ (k : Int) < (N : Int) := by omega
    have hkN : k = N := by omega
    have HBR := zaa hb
    have HJR := zaa hj
    clear hb hj
    go_wp2
    go_ret
    left
    refine ⟨rfl, ?_, HBR.out⟩
    have e : (es.drop i).take k = es.drop i := by rw [List.take_of_length_le]; rw [HDL.out, hkN, HN.out]; omega
    have := HJR.out
    rw [e] at this
    exact this
def zvp (n₀ : Nat) (J : List (Str × Str) -> World -> Prop) (pre : List (Str × Str)) {h : Nat} (es : List (Str × Tr h)) (lo : Str) (W : World) (N : Nat) (s : Value) (wr : World) : Prop :=
 ∃ k : Nat, k <= N /\ s = .int .i64 k /\ J (pre ++ (es.take k).flatMap fun e => Tr.from h e.2 lo) wr /\ Below n₀ W wr
set_option maxHeartbeats 1600000 in
theorem zmg (hJ : ∀ pre W W', J pre W -> Below W.heap.size W W' -> J pre W') {h : Nat} (n : Tr (h + 1)) (lo : Str) (b : Nat) (ds : List Nat) (pre : List (Str × Str)) (W : World) (hf : FRep (fun z => z < n₀) W (h + 1) n b ds) (h1 : 1 <= (Nd.es n).length) (hn : (Nd.es n).length <= 400) (hL : pre ++ Tr.from (h + 1) n lo <+: L) (h0 : J pre W) (hn0 : n₀ <= W.heap.size)
   (IH : ∀ e ∈ Nd.es n, ∀ (bc : Nat) (dc : List Nat) (pre' : List (Str × Str)) (W' : World), FRep (fun z => z < n₀) W' h e.2 bc dc -> pre' ++ Tr.from h e.2 lo <+: L -> J pre' W' -> n₀ <= W'.heap.size -> Calls Tryz.prog 145 #[P bc, .string lo, .func (.func 141) #[] #[.pointer (some ⟨q1, 0, none⟩), .pointer (some ⟨q2, 0, none⟩)]] W' (zjl n₀ J Jx pre' (Tr.from h e.2 lo) W')) :
   Calls Tryz.prog 145 #[P b, .string lo, .func (.func 141) #[] #[.pointer (some ⟨q1, 0, none⟩), .pointer (some ⟨q2, 0, none⟩)]] W (zjl n₀ J Jx pre (Tr.from (h + 1) n lo) W) := by
 obtain ⟨A1, c1, A2, c2, bs, dss, hnd, hbn, hro, hkk, hds⟩ := hf
 have hfr : Tr.from (h + 1) n lo = ((Nd.es n).drop (below lo (Nd.es n))).flatMap fun e => Tr.from h e.2 lo := rfl
 rw [hfr] at hL ⊢
 have hbb := zl2 lo (Nd.es n) h1
 have hbsl := hkk.len.1
 have hdsl := hkk.len.2
 have LEAF := zaa (zee b (Nd.blk n) (Nd.gen n) (Nd.es n).length c2 (Nd.dirty n) _ A2 W hnd.node h1 (by omega))
 have BELOW := zaa (fun q => zfs (Nd.es n) bs lo b (Nd.blk n) (Nd.gen n) c2 (Nd.dirty n) _ A2 (W.drewN q)
  (hnd.move (Agree.of_below (zam (Below.refl W.heap.size W) q) (fun _ hx => hx)) (Blk.lt hnd.node) (rowOk.zero _ _) hnd.ks.row_lt).node
  (hnd.move (Agree.of_below (zam (Below.refl W.heap.size W) q) (fun _ hx => hx)) (Blk.lt hnd.node) (rowOk.zero _ _) hnd.ks.row_lt).ks hbsl h1 (by omega))
 obtain ⟨es, hes⟩ : ∃ es, es = Nd.es n := ⟨_, rfl⟩
 rw [<- hes] at hnd hkk BELOW h1 hn hro hbb hbsl hdsl IH hL ⊢
 have hat : ∀ wr, Below n₀ W wr -> ∀ j (hj : j < es.length), ∃ g o, A2 = some ⟨g, o, none⟩ /\ wr.cell? ⟨g, o + j * 2, none⟩ = some (.string es[j].1) /\ wr.cell? ⟨g, o + j * 2 + 1, none⟩ = some (P (bs[j]'(by omega))) /\ FRep (fun z => z < n₀) wr h es[j].2 (bs[j]'(by omega)) (dss[j]'(by omega)) := by
  intro wr hb j hj
  obtain ⟨g, o, u1, u2, hA, hu1, hu2, hc1, hc2, hgl⟩ := hnd.ks.cells_at (Below.refl W.heap.size W) hj
  have hp := zco es bs j hj (by omega)
  have e1 := hu1.symm.trans hp.1
  have e2 := hu2.symm.trans hp.2
  injection e1 with e1
  injection e2 with e2
  subst e1; subst e2
  have hg0 : g < n₀ := hro (by omega) _ hA
  exact ⟨g, o, hA, (hb.cell (p := ⟨g, o + j * 2, none⟩) hg0).trans hc1, (hb.cell (p := ⟨g, o + j * 2 + 1, none⟩) hg0).trans hc2, (hkk.at_ j hj (by omega) (by omega)).move (Agree.of_below hb (fun _ hx => hx)) (fun _ hx => hx)⟩
 obtain ⟨g, o, hA, -, -, -⟩ := hat W (Below.refl _ _) 0 (by omega)
 subst hA
 have hc4 : W.cell? ⟨b, 4, none⟩ = some (.slice (some ⟨g, o, none⟩) es.length c2) := by rw [Blk.cell hnd.node]; rfl
 have hcap : es.length <= c2 /\ c2 <= maxLen := by
  obtain ⟨_, _, _, hv, e1, e2, _⟩ := hnd.ks
  injection hv with _ _ e3
  subst e3
  exact ⟨e1, e2⟩
 obtain ⟨i, hi⟩ : ∃ i, i = below lo es := ⟨_, rfl⟩
 rw [<- hi] at BELOW hbb hL ⊢
 obtain ⟨hcap1, hcap2⟩ := hcap
 have hml := hcap2
 unfold maxLen at hml
 have HAT := zaa hat
 have HIH := zaa IH
 have HJ := zaa hJ
 have H0 := zaa h0
 have HDL := zaa (show (es.drop i).length = es.length - i by simp)
 have HL := zaa hL
 clear hnd hkk hro hds hat IH hJ h0 hi hes hfr hL
 have k0 : (0 : Int) <= (i : Int) := by omega
 have k1 : (i : Int) <= (es.length : Int) := by omega
 have k2 : (es.length : Int) <= (c2 : Int) := by omega
 have k3 : (i : Int) < (c2 : Int) := by omega
 have k4 : ¬ i = c2 := by omega
 unfold P
 unfold P at LEAF BELOW
 go_enter Tryz.func145, Tryz.ntmps145
 go_upto_region 10 with (first
  | (go_at_call 81; go_loud (refine LEAF.out.mono ?_; rintro e w' ⟨rfl, rfl⟩)))
 go_quiet (first | (go_at_call 82; exact zcm (BELOW.out _)))
 obtain ⟨Wq, hWq⟩ : ∃ Wq, Wq = W.drewN nq := ⟨_, rfl⟩
 rw [<- hWq]
 have hbq : Below W.heap.size W Wq := by rw [hWq]; exact zam (Below.refl _ _) nq
 have HBQ := zaa hbq
 clear hbq hWq
 obtain ⟨N, hN⟩ : ∃ N, N = es.length - i := ⟨_, rfl⟩
 rw [<- hN]
 obtain ⟨C, hC⟩ : ∃ C, C = c2 - i := ⟨_, rfl⟩
 rw [<- hC]
 have HN := zaa hN
 have HC := zaa hC
 have hNC : N <= C := by omega
 have hN4 : N <= 400 := by omega
 clear hN hC
 go_wp2
 go_loopw [46] (fun s wr => zvp n₀ J pre (es.drop i) lo W N s wr) (fun s _ => N - (intOf s).toNat)
 case atStart => exact ⟨0, Nat.zero_le _, rfl, by simpa using HJ.out pre _ _ H0.out HBQ.out, HBQ.out.mono hn0⟩
 case round =>
  obtain ⟨k, hk, rfl, hj, hb⟩ := hrel
  by_cases hlt : k < N
  . have hik : i + k < es.length := by have := HN.out; omega
    obtain ⟨g', o', e1, e2, e3, hfk⟩ := HAT.out wr hb (i + k) hik
    injection e1 with e1
    injection e1 with e1 e4
    subst e1; subst e4
    have r1 : wr.cell? ⟨g, o + i * 2 + k * 2, none⟩ = some (.string es[i + k].1) := by rw [Nat.add_assoc, <- Nat.add_mul]; exact e2
    have r2 : wr.cell? ⟨g, o + i * 2 + k * 2 + 1, none⟩ = some (P (bs[i + k]'(by omega))) := by rw [Nat.add_assoc o, <- Nat.add_mul]; exact e3
    obtain ⟨x, hx⟩ : ∃ x, x = es[i + k] := ⟨_, rfl⟩
    obtain ⟨bc, hbc⟩ : ∃ bc, bc = bs[i + k]'(by omega) := ⟨_, rfl⟩
    rw [<- hx] at r1 hfk
    rw [<- hbc] at r2 hfk
    have hal : Below wr.heap.size wr (wr.alloc (.cells #[.string x.1, P bc] 139)) := (Below.refl _ _).alloc (Nat.le_refl _) _
    have hzn : n₀ <= wr.heap.size := Nat.le_trans hn0 hb.size
    have m0 : (0 : Int) <= (k : Int) := by omega
    have m1 : (k : Int) < (N : Int) := by omega
    have hsn : (es.drop i).take (k + 1) = (es.drop i).take k ++ [x] := by
     rw [zkq (by rw [List.length_drop]; have := HN.out; omega), hx]
     simp
    have hsp : ((es.drop i).take (k + 1)).flatMap (fun e => Tr.from h e.2 lo) = ((es.drop i).take k).flatMap (fun e => Tr.from h e.2 lo) ++ Tr.from h x.2 lo := by rw [hsn]; simp
    have hpf : ((es.drop i).take (k + 1)).flatMap (fun e => Tr.from h e.2 lo) <+: (es.drop i).flatMap (fun e => Tr.from h e.2 lo) := by
     conv => rhs; rw [<- List.take_append_drop (k + 1) (es.drop i)]
     rw [List.flatMap_append]
     exact List.prefix_append _ _
    have hpx : (pre ++ ((es.drop i).take k).flatMap fun e => Tr.from h e.2 lo) ++ Tr.from h x.2 lo <+: L := by
     rw [List.append_assoc, <- hsp]
     exact ((List.prefix_append_right_inj _).2 hpf).trans HL.out
    have YC := zaa (HIH.out x (by rw [hx]; exact List.getElem_mem _) bc _ _ _ (hfk.below hal (fun _ h => h)) hpx (HJ.out _ _ _ hj hal) (Nat.le_trans hzn hal.size))
    have HSP := zaa hsp
    have HPF := zaa hpf
    have HX := zaa hx
    have HBC := zaa hbc
    have HBR := zaa hb
    clear hj hb e2 e3 hx hbc hsn hsp hpf hfk hpx
    unfold P at r2 YC
    go_wp2_with (first
     | (go_at_call 145; go_loud (refine YC.out.mono ?_; rintro e w3 (⟨rfl, hj3, hb3⟩ | ⟨rfl, q, hq, hx3⟩))))
    . go_roundw
      case rel =>
       refine ⟨k + 1, by omega, by go_num, ?_, HBR.out.trans (Below.from_alloc hb3 HBR.out hzn)⟩
       rw [HSP.out, <- List.append_assoc]
       exact hj3
      case measure => simp [intOf]; omega
    . go_ret
      right
      refine ⟨rfl, ((es.drop i).take k).flatMap (fun e => Tr.from h e.2 lo) ++ q, ?_, by rw [<- List.append_assoc]; exact hx3⟩
      refine List.IsPrefix.trans ?_ HPF.out
      rw [HSP.out]
      exact (List.prefix_append_right_inj _).2 hq
  . have m1 : ¬ (k : Int) < (N : Int) := by omega
    have hkN : k = N := by omega
    have HBR := zaa hb
    have HJR := zaa hj
    clear hb hj
    go_wp2
    go_ret
    left
    refine ⟨rfl, ?_, HBR.out⟩
    have e : (es.drop i).take k = es.drop i := by rw [List.take_of_length_le]; rw [HDL.out, hkN, HN.out]; omega
    have := HJR.out
    rw [e] at this
    exact this
theorem zkr (hJ : ∀ pre W W', J pre W -> Below W.heap.size W W' -> J pre W') (hY : ∀ pre x W, J pre W -> pre ++ [x] <+: L -> n₀ <= W.heap.size -> Calls Tryz.prog 141 #[.agg #[.string x.1, .string x.2], .pointer (some ⟨q1, 0, none⟩), .pointer (some ⟨q2, 0, none⟩)] W (zmf n₀ J Jx pre x W)) (lo : Str) :
   ∀ (h : Nat) (lo0 : Str) (hi0 : Option Str) (n : Tr h) (b : Nat) (ds : List Nat) (pre : List (Str × Str)) (W : World), WF h lo0 hi0 n -> Top h n -> (Tr.pairs h n).length <= 150 -> FRep (fun z => z < n₀) W h n b ds -> pre ++ Tr.from h n lo <+: L -> J pre W -> n₀ <= W.heap.size ->
   Calls Tryz.prog 145 #[P b, .string lo, .func (.func 141) #[] #[.pointer (some ⟨q1, 0, none⟩), .pointer (some ⟨q2, 0, none⟩)]] W (zjl n₀ J Jx pre (Tr.from h n lo) W)
 | 0, lo0, hi0, n, b, ds, pre, W, hw, ht, hp, hf, hL, h0, hn0 => zpj hJ hY n lo b ds pre W hf hw.1 ht (Nat.le_trans hp (by omega)) hL h0 hn0
 | h + 1, lo0, hi0, n, b, ds, pre, W, hw, ht, hp, hf, hL, h0, hn0 => by
   obtain ⟨f1, f2, _⟩ := zed (h + 1) lo0 hi0 n hw ht
   refine zmg hJ n lo b ds pre W hf f1 (Nat.le_trans f2 (by omega)) hL h0 hn0 ?_
   intro e he bc dc pre' W' hf' hL' hj' hn'
   obtain ⟨⟨hi', w1⟩, _⟩ := zes (show Chain (WF h) lo0 hi0 (Nd.es n) from hw) e he
   exact zkr hJ hY lo h e.1 hi' e.2 bc dc pre' W' w1 (zfa ht e he) (Nat.le_trans (zdv (es := Nd.es n) e he) hp) hf' hL' hj' hn'
theorem zvb (hJ : ∀ pre W W', J pre W -> Below W.heap.size W W' -> J pre W') (hY : ∀ pre x W, J pre W -> pre ++ [x] <+: L -> n₀ <= W.heap.size -> Calls Tryz.prog 141 #[.agg #[.string x.1, .string x.2], .pointer (some ⟨q1, 0, none⟩), .pointer (some ⟨q2, 0, none⟩)] W (zmf n₀ J Jx pre x W))
   (t : Tree) (rp : Value) (ds : List Nat) (lo : Str) (W : World) (hv : TreeV (fun z => z < n₀) W t rp ds) (ht : TR t) (hp : t.pairs.length <= 150) (hL : zb4 t lo <+: L) (h0 : J [] W) (hn0 : n₀ <= W.heap.size) :
   Calls Tryz.prog 105 #[za0 rp t.keys, .string lo, .func (.func 141) #[] #[.pointer (some ⟨q1, 0, none⟩), .pointer (some ⟨q2, 0, none⟩)]] W fun e W' => e = .returned (.tuple #[]) /\ ((J (zb4 t lo) W' /\ Below n₀ W W') \/ ∃ q, q <+: zb4 t lo /\ Jx q W') := by
 have hb0 : Below W.heap.size W (W.alloc (.cells #[rp, .int .i64 t.keys] 88)) := (Below.refl _ _).alloc (Nat.le_refl _) _
 rcases hv with ⟨hr, rfl, rfl⟩ | ⟨h, n, b, hr, rfl, hf⟩
 . have hfk : zb4 t lo = [] := by unfold zb4 Tree.pairs; rw [hr]; simp
   rw [hfk]
   have HJ := zaa (hJ [] _ _ h0 hb0)
   have HB := zaa hb0
   clear hJ hY h0 hb0
   unfold za0
   go_enter Tryz.func105, Tryz.ntmps105
   go_wp2
   go_end0
   exact ⟨rfl, .inl ⟨HJ.out, HB.out.mono hn0⟩⟩
 . have hfk : zb4 t lo = Tr.from h n lo := by
     have hpp : t.pairs = Tr.pairs h n := by unfold Tree.pairs; rw [hr]
     unfold zb4
     rw [hpp, zjk h zbz none n lo (ht.tw.some_ h n hr) (za5 lo)]
   rw [hfk] at hL ⊢
   have hpp : t.pairs = Tr.pairs h n := by unfold Tree.pairs; rw [hr]
   have HE := zaa (zkr hJ hY lo h zbz none n b ds [] _ (ht.tw.some_ h n hr) (ht.top h n hr) (by rw [<- hpp]; exact hp) (hf.below hb0 (fun _ h => h)) hL (hJ [] _ _ h0 hb0) (Nat.le_trans hn0 hb0.size))
   have HB := zaa hb0
   clear hJ hY h0 hb0 hf
   unfold za0 P
   unfold P at HE
   go_enter Tryz.func105, Tryz.ntmps105
   go_wp2_with (go_at_call 145; go_loud (refine HE.out.mono ?_; rintro e w3 (⟨rfl, hj3, hb3⟩ | ⟨rfl, q, hq, hx3⟩)))
   . go_end0
     exact ⟨rfl, .inl ⟨hj3, (HB.out.mono hn0).trans hb3⟩⟩
   . go_end0
     exact ⟨rfl, .inr ⟨q, hq, hx3⟩⟩
end
end Go.Proofs.YtemondlgcmpbbaaGreatDoor
