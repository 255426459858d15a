/- Ws Fn Es: merged. -/
import Derived.Test.YtemondlgcmpbbaaGreatDoorMV19
import Derived.Test.YtemondlgcmpbbaaGreatDoorMV02
import Derived.Deep.LoopGhost
import Derived.BigQuiet
namespace Go.Proofs.YtemondlgcmpbbaaGreatDoor
open Go.RowKit
set_option maxRecDepth 100000
def TreeV (ok : Nat -> Prop) (w : World) (t : Tree) (rp : Value) (ds : List Nat) : Prop := (t.root = none /\ rp = .pointer none /\ ds = []) \/ ∃ h n b, t.root = some ⟨h, n⟩ /\ rp = P b /\ FRep ok w h n b ds
def zav (rp : Value) (keys : Nat) : Value := .agg #[rp, .int .i64 keys]
theorem TreeV.move {ok ok' : Nat -> Prop} {w w' : World} {t : Tree} {rp : Value} {ds : List Nat} (h : TreeV ok w t rp ds) (ha : Agree ok w w') (hs : ∀ x, ok x -> ok' x) : TreeV ok' w' t rp ds :=
 h.imp id fun ⟨h, n, b, e1, e2, e3⟩ => ⟨h, n, b, e1, e2, e3.move ha hs⟩
theorem TreeV.below {ok ok' : Nat -> Prop} {w w' : World} {t : Tree} {rp : Value} {ds : List Nat} (h : TreeV ok w t rp ds) (hb : Below w.heap.size w w') (hs : ∀ x, ok x -> ok' x) : TreeV ok' w' t rp ds :=
 h.imp id fun ⟨h, n, b, e1, e2, e3⟩ => ⟨h, n, b, e1, e2, e3.below hb hs⟩
theorem TreeV.ds {ok : Nat -> Prop} {w : World} {t : Tree} {rp : Value} {ds : List Nat} (h : TreeV ok w t rp ds) : ∀ x ∈ ds, ok x /\ x < w.heap.size := by
 rcases h with ⟨_, _, rfl⟩ | ⟨h, n, b, _, _, hf⟩
 . intro x hx; cases hx
 . exact FRep.ds hf
def zhj (r : Option Str) : Value := .tuple #[.string (r.getD ByteArray.empty), .bool r.isSome]
theorem zs7 {key v : Str} {es : List (Str × Str)} (h : zbz key es = some v) (hl : place key es < es.length) : es[place key es].2 = v := by
 unfold zbz at h
 rw [List.drop_eq_getElem_cons hl] at h
 simp only at h
 split at h
 . exact Option.some.inj h
 . cases h
def znv (key : Str) (res : Option Str) (w : World) (k : Nat) (p : Value) (wr : World) : Prop :=
 ∃ (n : Tr k) (b : Nat) (ds : List Nat) (lo : Str) (hi : Option Str), p = P b /\ FRep (fun _ => True) wr k n b ds /\ WF k lo hi n /\ Top k n /\ slt key lo = false /\ Tr.get k n key = res /\ (Tr.pairs k n).length <= 150 /\ Below w.heap.size w wr
theorem zu5 (keys : Nat) (key : Str) (w : World) : Calls Tryz.prog 56 #[zav (.pointer none) keys, .string key] w fun e w' => e = .returned (zhj none) /\ Below w.heap.size w w' := by
 have hb0 : Below w.heap.size w (w.alloc (.cells #[.pointer none, .int .i64 keys] 88)) := (Below.refl _ _).alloc (Nat.le_refl _) _
 unfold zav
 go_enter Tryz.func56, Tryz.ntmps56
 go_wp2
 refine wp_loop_rounds 1 ?_
 rw [rounds_succ]
 go_wp2
 go_ret2
 exact ⟨rfl, hb0⟩
set_option maxHeartbeats 1600000 in
theorem zu6 (keys h b : Nat) (n : Tr h) (ds : List Nat) (key : Str) (w : World) (hf : FRep (fun _ => True) w h n b ds) (hw : WF h zba none n) (ht : Top h n) (hp : (Tr.pairs h n).length <= 150) :
   Calls Tryz.prog 56 #[zav (P b) keys, .string key] w fun e w' => e = .returned (zhj (Tr.get h n key)) /\ Below w.heap.size w w' := by
 have hb0 : Below w.heap.size w (w.alloc (.cells #[P b, .int .i64 keys] 88)) := (Below.refl _ _).alloc (Nat.le_refl _) _
 have hst : znv key (Tr.get h n key) w h (P b) (w.alloc (.cells #[P b, .int .i64 keys] 88)) := ⟨n, b, ds, _, _, rfl, hf.below hb0 (fun _ h => h), hw, ht, za3 key, rfl, hp, hb0⟩
 obtain ⟨res, hres⟩ : ∃ r, r = Tr.get h n key := ⟨_, rfl⟩
 rw [<- hres] at hst ⊢
 have HST := zaa hst
 clear hf hw ht hp hst hb0 hres
 unfold zav P
 unfold P at HST
 go_enter Tryz.func56, Tryz.ntmps56
 go_wp2
 go_loopg [6] h (fun k p wr => znv key res w k p wr)
 case atStart => exact HST.out
 case round =>
  obtain ⟨n, b, ds, lo, hi, rfl, hf, hw, ht, hk, hg, hp, hb⟩ := hrel
  cases gk with
  | zero =>
    obtain ⟨A1, c1, A2, c2, hnd, _, _, _⟩ := hf
    have LEAF := zaa (zdu b (Nd.blk n) (Nd.gen n) c2 (Nd.dirty n) _ A2 wr hnd.node)
    have PLACE := zaa (zfe n key b _ wr (show Rep wr 0 n b (zax (Nd.dirty n) b) from ⟨_, _, hnd.node, hnd.ps, hnd.ks, rfl⟩) hw.1 (Nat.le_trans hp (by omega)))
    have hblt : b < wr.heap.size := Blk.lt hnd.node
    have hgl : zbz key (Nd.es n) = res := hg
    obtain ⟨es, hes⟩ : ∃ es, es = Nd.es n := ⟨_, rfl⟩
    rw [<- hes] at hgl PLACE
    have hlk : there key es = res.isSome := by rw [zdf, hgl]
    have hat := fun h => hnd.ps.cells_at (Below.refl wr.heap.size wr) (k := place key es) h
    rw [<- hes] at hat
    have c3 : wr.cell? ⟨b, 3, none⟩ = some (.slice A1 es.length c1) := by rw [Blk.cell hnd.node, hes]; rfl
    have hpe := zc6 es (place key es)
    have hlt := zjp (key := key) (es := es)
    obtain ⟨i, hi'⟩ : ∃ i, i = place key es := ⟨_, rfl⟩
    rw [<- hi'] at hat hpe hlt PLACE
    rw [hlk] at hlt PLACE
    have HG := zaa hgl
    have HI := zaa hi'
    have HB := zaa hb
    have HND := zaa hnd
    clear hw ht hk hg hp hb hnd hgl hi' hlk HST hes
    unfold P at *
    cases res with
    | none =>
      go_wp2_with (first
       | (go_at_call 81; refine LEAF.out.mono ?_; rintro e w' ⟨rfl, rfl⟩)
       | (go_at_call 83; refine PLACE.out.mono ?_; rintro e w2 ⟨rfl, hb2⟩))
      go_ret2
      exact ⟨rfl, HB.out.trans (hb2.mono HB.out.size)⟩
    | some v =>
      have hlt' := hlt rfl
      obtain ⟨g, o, u1, u2, rfl, hu1, hu2, hc1, hc2, hgl⟩ := hat hlt'
      have hv : es[i].2 = v := by
       have := zs7 HG.out (by rw [<- HI.out]; exact hlt')
       simpa [HI.out] using this
      have e2 := hu2.symm.trans (hpe hlt').2
      injection e2 with e2
      subst e2
      rw [hv] at hc2
      have k1 : (0 : Int) <= (i : Int) := by omega
      have k2 : (i : Int) < (es.length : Int) := by omega
      clear hat hpe hlt hu1 hu2 hv
      go_wp2_with (first
       | (go_at_call 81; refine LEAF.out.mono ?_; rintro e w' ⟨rfl, rfl⟩)
       | (go_at_call 83; go_loud (
          refine PLACE.out.mono ?_; rintro e w2 ⟨rfl, hb2⟩
          have d3 : w2.cell? ⟨b, 3, none⟩ = some (.slice (some ⟨g, o, none⟩) es.length c1) := (hb2.cell hblt).trans c3
          have d4 : w2.cell? ⟨g, o + i * 2 + 1, none⟩ = some (.string v) := (hb2.cell hgl).trans hc2)))
      go_ret2
      exact ⟨rfl, HB.out.trans (hb2.mono HB.out.size)⟩
  | succ k =>
    obtain ⟨A1, c1, A2, c2, bs, dss, hnd, _, _, hkk, _⟩ := hf
    have hc0 : Chain (WF k) lo hi (Nd.es n) := hw
    obtain ⟨A, ⟨kk, c⟩, B, hX, hl, h5, h6⟩ := zdc hc0 hk
    have hlen : (Nd.es n).length <= 150 := Nat.le_trans (zdh (k + 1) lo hi n hw ht).2.1 hp
    have hAl : A.length < (Nd.es n).length := by rw [hX]; simp
    have hbsl := hkk.len.1
    have hwc : WF k kk (zch hi B) c := by
     rw [hX] at hc0
     exact (zb0 hc0).1
    have htc : Top k c := zdj ht (kk, c) (by rw [hX]; simp)
    have hpc : (Tr.pairs k c).length <= 150 := Nat.le_trans (zdv (es := Nd.es n) (kk, c) (by rw [hX]; simp)) hp
    have hgc : Tr.get k c key = res := by
     rw [<- hg]
     show _ = (match (Nd.es n).drop (below key (Nd.es n)) with | [] => none | e :: _ => Tr.get k e.2 key)
     rw [hl, hX, List.drop_left]
    have hk2 := hkk
    rw [hX] at hk2
    obtain ⟨bp, bc, bq, dp, dc, dq, hbs, hds, l1, l2, r1, r2, r3⟩ := RepL.cut hk2
    obtain ⟨g, o, u1, u2, rfl, hu1, hu2, hc1, hc2, hgl⟩ := hnd.ks.cells_at (Below.refl wr.heap.size wr) (k := A.length) hAl
    have hkc := (zcp (Nd.es n) bs A.length hAl (by omega)).2
    have hbc : bs[A.length]'(by omega) = bc := by
     subst hbs
     rw [List.getElem_append_right (by omega)]
     simp [l1]
    rw [hbc] at hkc
    have e2 := hu2.symm.trans hkc
    injection e2 with e2
    subst e2
    have c4 : wr.cell? ⟨b, 4, none⟩ = some (.slice (some ⟨g, o, none⟩) (Nd.es n).length c2) := by rw [Blk.cell hnd.node]; rfl
    have LEAF := zaa (zed b (Nd.blk n) (Nd.gen n) (Nd.es n).length c2 (Nd.dirty n) _ _ wr hnd.node (by omega) (by omega))
    have BELOW := zaa (fun q => zfd (Nd.es n) bs key b (Nd.blk n) (Nd.gen n) c2 (Nd.dirty n) _ _ (wr.drewN q)
     (hnd.move (Agree.of_below (zae (Below.refl wr.heap.size wr) q) (fun _ hx => hx)) (Blk.lt hnd.node) (rowOk.zero _ _) hnd.ks.row_lt).node
     (hnd.move (Agree.of_below (zae (Below.refl wr.heap.size wr) q) (fun _ hx => hx)) (Blk.lt hnd.node) (rowOk.zero _ _) hnd.ks.row_lt).ks hbsl (by omega) (by omega))
    rw [hl] at BELOW
    obtain ⟨i, hi'⟩ : ∃ i, i = A.length := ⟨_, rfl⟩
    rw [<- hi'] at BELOW hc2 hAl
    obtain ⟨N, hN⟩ : ∃ N, N = (Nd.es n).length := ⟨_, rfl⟩
    rw [<- hN] at c4 hAl
    have k1 : (0 : Int) <= (i : Int) := by omega
    have k2 : (i : Int) < (N : Int) := by omega
    have HREL := zaa (show ∀ q, znv key res w k (P bc) (wr.drewN q) from fun q => ⟨c, bc, dc, kk, zch hi B, rfl, r2.below (zae (Below.refl _ _) q) (fun _ h => h), hwc, htc, h5, hgc, hpc, hb.trans ((zae (Below.refl _ _) q).mono hb.size)⟩)
    have HREL' := HREL
    clear hw ht hk hg hp hb hnd hkk hc0 hX hl h5 h6 hbsl hwc htc hpc hgc hk2 hbs hds l1 l2 r1 r2 r3 hu1 hu2 hc1 hkc hbc HST hi' hN HREL'
    unfold P at *
    go_upto_region 3 with (first | (go_at_call 81; refine LEAF.out.mono ?_; rintro e w' ⟨rfl, rfl⟩))
    go_quiet (first | (go_at_call 82; exact zcz (BELOW.out _)))
    go_wp2
    go_roundg k
    case measure => omega
    case rel => exact HREL.out _
theorem zf4 {ok : Nat -> Prop} (t : Tree) (rp : Value) (ds : List Nat) (key : Str) (w : World) (hv : TreeV ok w t rp ds) (ht : TR t) (hp : t.pairs.length <= 150) :
   Calls Tryz.prog 56 #[zav rp t.keys, .string key] w fun e w' => e = .returned (zhj (t.get key)) /\ Below w.heap.size w w' := by
 rcases hv with ⟨hr, rfl, _⟩ | ⟨h, n, b, hr, rfl, hf⟩
 . have : t.get key = none := by unfold Tree.get; rw [hr]
   rw [this]
   exact zu5 _ _ _
 . have : t.get key = Tr.get h n key := by unfold Tree.get; rw [hr]
   rw [this]
   have hpp : t.pairs = Tr.pairs h n := by unfold Tree.pairs; rw [hr]
   exact zu6 _ _ _ n ds key w (hf.more fun _ _ => trivial) (ht.tw.some_ h n hr) (ht.top h n hr) (by rw [<- hpp]; exact hp)
theorem zif {α : Type} {l : List α} {k : Nat} (h : k < l.length) : l.take (k + 1) = l.take k ++ [l[k]] := by
 rw [List.take_add_one, List.getElem?_eq_getElem h]; rfl
theorem Below.from_alloc {n₀ : Nat} {W w w' : World} {o : Obj} (h : Below n₀ (w.alloc o) w') (_hb : Below n₀ W w) (hn : n₀ <= w.heap.size) : Below n₀ w w' := ((Below.refl n₀ w).alloc hn o).trans h
def za5 (t : Tree) (lo : Str) : List (Str × Str) := t.pairs.drop (place lo t.pairs)
def zy1 (n₀ : Nat) (J Jx : List (Str × Str) -> World -> Prop) (pre : List (Str × Str)) (x : Str × Str) (W : World) : Ending -> World -> Prop := fun e W' =>
 (e = .returned (.bool true) /\ J (pre ++ [x]) W' /\ Below n₀ W W') \/ (e = .returned (.bool false) /\ Jx (pre ++ [x]) W')
def zy2 (n₀ : Nat) (J Jx : List (Str × Str) -> World -> Prop) (pre xs : List (Str × Str)) (W : World) : Ending -> World -> Prop := fun e W' =>
 (e = .returned (.bool true) /\ J (pre ++ xs) W' /\ Below n₀ W W') \/ (e = .returned (.bool false) /\ ∃ q, q <+: xs /\ Jx (pre ++ q) W')
def zy9 (n₀ : Nat) (J : List (Str × Str) -> World -> Prop) (pre xs : List (Str × Str)) (W : World) (N : Nat) (s : Value) (wr : World) : Prop :=
 ∃ k : Nat, k <= N /\ s = .int .i64 k /\ J (pre ++ xs.take k) wr /\ Below n₀ W wr
section
variable {n₀ : Nat} {L : List (Str × Str)} {J Jx : List (Str × Str) -> World -> Prop} {q1 q2 : Nat}
def zza (n₀ : Nat) (J : List (Str × Str) -> World -> Prop) (pre : List (Str × Str)) {h : Nat} (es : List (Str × Tr h)) (lo : Str) (W : World) (N : Nat) (s : Value) (wr : World) : Prop :=
 ∃ k : Nat, k <= N /\ s = .int .i64 k /\ J (pre ++ (es.take k).flatMap fun e => Tr.from h e.2 lo) wr /\ Below n₀ W wr
end
end Go.Proofs.YtemondlgcmpbbaaGreatDoor
