/- Xc Xd Xa: merged. -/
import Derived.Test.YtemondlgcmpbbaaGreatDoorMX22
import Derived.RangeFuncNested
import Derived.Test.YtemondlgcmpbbaaGreatDoorMX27
import Derived.RegionTactic
import Derived.BigRegion
import Derived.Test.YtemondlgcmpbbaaGreatDoorMX21
namespace Go.Proofs.YtemondlgcmpbbaaGreatDoor
open Go Go.RowKit Go.Shelf
set_option maxRecDepth 100000
section
variable {F : Fence} {n : Nat} {P : Program}
theorem zfu {g : Operand} {ps : Array Tmp} {assign body : Code} {Q : Exit -> Act -> World -> Prop} {a : Act} {w : World}
   (hro : F.round = none) (h1 : 1 <= n) {gf : Nat} {lb : Array Value} (hg : a.eval g = .func (.func gf) #[] lb) (hFg : F.fn gf) (eg : ∀ args w, (callFunc gf args).run P w = .ok (.enter gf args) w)
   {encs : Nat -> Array Value} (hps : ∀ x, (encs x).size = ps.size) {Good : Nat -> World -> Prop}
   (hseq : ∀ (l : Nat) (J : Unit -> World -> Prop) (Jx : Nat -> World -> Prop) (W : World), Below w.heap.size w W -> AbidesFrom W.heap.size J ->
    (∀ f W1, J () W1 -> Good f W1 -> YieldAt F (n - 1 - 1) P l (encs f) W1 fun e W' => e = .returned (.bool false) /\ Jx f W') -> J () W ->
    CallsIn F (n - 1) P gf (#[.func (.yield l) #[] #[]] ++ lb) W fun e W' => (∃ v, e = .returned v) /\ ∃ f, Jx f W')
   (I : Unit -> World -> Prop) (Ix Ax : Nat -> World -> Prop) (Fr : Nat -> Act -> World -> Prop) (hI : OwnFrom w.heap.size I) (hIx : OwnFrom w.heap.size Ix) (hAx : OwnFrom w.heap.size Ax) (hFr : ∀ x a', OwnFrom w.heap.size (fun (_ : Unit) W => Fr x a' W)) (h0 : I () w)
   (hassign : ∀ (l x : Nat) (W : World) (K : Act -> World -> Prop), I () W -> Good x W -> (∀ a' W', KeepsFrom w.heap.size W W' -> I () W' -> Ax x W' -> Fr x a' W' -> K a' W') ->
    assign.wpIn (F.inRound l) (n - 1 - 1) P (Exit.then K (fun _ _ _ => False)) { tmps := (ps.zip (encs x)).foldl (fun t (p, v) => t.setIfInBounds p v) a.tmps, defers := [] } W)
   (hbody : ∀ (l x : Nat) (a' : Act) (W : World), w.heap.size <= l -> I () W -> Ax x W -> Fr x a' W -> body.wpIn (F.inRound l) (n - 1 - 1) P (fun e _ W' => e = .ret /\ KeepsFrom w.heap.size W W' /\ Ix x W') a' W)
   (hstop : ∀ (D x : Nat) (W : World), w.heap.size <= D -> Ix x W -> W.heap[D]? = some (.deferred (some [])) -> Code.ret.wpIn F n P Q { a with defers := { target := .collected D, args := #[] } :: a.defers } W) :
   (Code.rangeFunc g ps assign body).wpIn F n P Q a w := by
 refine wpIn_rangeFunc fun fn hfn => ?_
 rw [hro]
 obtain ⟨rec, hrec⟩ : ∃ rec : LoopState -> Option Code -> Loop, rec = fun st pe => { state := st, pending := pe, fn, tmps := a.tmps, params := ps, assign, body, defers := w.heap.size } := ⟨_, rfl⟩
 obtain ⟨V, hV⟩ : ∃ V, (w.alloc (.deferred (some []))).alloc (.loop (rec .ready none)) = V := ⟨_, rfl⟩
 have hsz : V.heap.size = w.heap.size + 1 + 1 := by rw [<- hV]; simp
 have vl : V.heap[w.heap.size + 1]? = some (.loop (rec .ready none)) := by
  rw [<- hV]
  have := World.alloc_heap_new (w.alloc (.deferred (some []))) (.loop (rec .ready none))
  rwa [World.size_alloc] at this
 have vd : V.heap[w.heap.size]? = some (.deferred (some [])) := by
  rw [<- hV]
  exact (Below.heap_alloc _ _ _ (by simp)).trans (World.alloc_heap_new w _)
 have vi : I () V := by rw [<- hV]; exact hI.alloc _ (hI.alloc _ h0)
 have vb : Below w.heap.size w V := by rw [<- hV]; exact ((Below.refl _ w).alloc (Nat.le_refl _) _).alloc (by simp) _
 have far : ∀ {A : World} {row : Option Nat}, (∀ r, row = some r -> V.heap.size <= r /\ ∃ o : Obj, A.heap[r]? = some o /\ o.isWalk = true) -> ∀ r, row = some r -> w.heap.size <= r /\ ∃ o : Obj, A.heap[r]? = some o /\ o.isCells = false := fun hr r e => by
  obtain ⟨hB, o, ho, hw⟩ := hr r e
  exact ⟨by omega, o, ho, Obj.not_cells_of_walk hw⟩
 refine ⟨w.heap.size + 1, [{ target := .collected w.heap.size, args := #[] }], V, { target := .fn (.func gf) lb, args := #[.func (.yield (w.heap.size + 1)) #[] #[]] }, V, gf, #[.func (.yield (w.heap.size + 1)) #[] #[]] ++ lb, V, ?_, ?_, ?_, ?_, fun _ => h1, ?_⟩
 . rw [<- hV, hrec]; exact run_enterLoop_outer _ _ _ _ _
 . simp only [resolve, hg]
   simp [go_sem]
 . intro f' hf'
   simp [Target.leads] at hf'
   subst hf'
   exact hFg
 . simp [invoke, go_sem, eg]
 . refine (hseq (w.heap.size + 1) (fun u W => I u W /\ W.heap[w.heap.size + 1]? = some (.loop (rec .ready none)) /\ W.heap[w.heap.size]? = some (.deferred (some [])))
     (fun x W => Ix x W /\ W.heap[w.heap.size + 1]? = some (.loop (rec .done (some .ret))) /\ W.heap[w.heap.size]? = some (.deferred (some []))) V vb
     (fun u A A' row hs hg' hr => ⟨hI u A A' row hs.1 hg' (far hr), (grownBy_keeps hg' (fun r e => (hr r e).2) hs.2.1 rfl).trans hs.2.1, (grownBy_keeps hg' (fun r e => (hr r e).2) hs.2.2 rfl).trans hs.2.2⟩) ?_ ⟨vi, vl, vd⟩).mono ?_
   . rintro x W ⟨hi, hl, hk⟩ hgood
     have hy := run_yield (P := P) (args := encs x) hl (by rw [hrec]; exact hps x)
     rw [hrec] at hy
     refine ⟨fn, _, assign, body, hy, roundIn_of_wpIn hfn (hassign _ x W _ hi hgood ?_)⟩
     intro a' U hkf ui uax ufr
     have ul := hkf.same _ _ (by omega) hl rfl
     have ud := hkf.same _ _ (Nat.le_refl _) hk rfl
     have ult : w.heap.size + 1 < U.heap.size := (Array.getElem?_eq_some_iff.1 ul).1
     obtain ⟨busy, hbusy⟩ : ∃ busy : Obj, busy = .loop { rec .ready none with state := .busy } := ⟨_, rfl⟩
     refine ⟨_, run_beginRound ul (by rw [hrec]), ?_⟩
     rw [<- hbusy]
     have bl : (U.putObj (w.heap.size + 1) busy).heap[w.heap.size + 1]? = some busy := World.putObj_heap_same ult
     have bd : (U.putObj (w.heap.size + 1) busy).heap[w.heap.size]? = some (.deferred (some [])) := (World.putObj_heap_other (by omega)).trans ud
     refine wpIn_mono (hbody _ x a' _ (by omega) (hI.putObj _ ui (by omega) ul rfl) (hAx.putObj _ uax (by omega) ul rfl) ((hFr x a').putObj (s := ()) _ ufr (by omega) ul rfl)) ?_
     rintro e a3 U3 ⟨rfl, hk3, hx3⟩
     have l3 := hk3.same _ _ (by omega) bl (by rw [hbusy]; rfl)
     have d3 := hk3.same _ _ (Nat.le_refl _) bd rfl
     rw [hbusy] at l3
     have hend := run_endRound (P := P) (some .ret) l3
     refine ⟨_, _, hend, rfl, hIx.putObj _ hx3 (by omega) l3 rfl, ?_, (World.putObj_heap_other (by omega)).trans d3⟩
     rw [World.putObj_heap_same (Array.getElem?_eq_some_iff.1 l3).1, hrec]
     rfl
   . rintro e U ⟨⟨v, rfl⟩, x, hx, hl, hk⟩
     have hend := run_endLoop (P := P) hl (by rw [hrec]; simp)
     refine ⟨some .ret, _, by rw [hrec] at hend; exact hend, hstop _ x _ (Nat.le_refl _) (hIx.putObj _ hx (by omega) hl rfl) ((World.putObj_heap_other (by omega)).trans hk)⟩
end
end Go.Proofs.YtemondlgcmpbbaaGreatDoor
namespace Go.Proofs.YtemondlgcmpbbaaGreatDoor
open Go.RowKit Go.Shelf
set_option maxRecDepth 100000
attribute [local go_sem] Oper.semAt_some
def zj6 (f : Nat) : Array Value := #[.agg #[.string ⟨#[]⟩, .string ⟨#[]⟩], .iface 128 (.pointer (some ⟨f, 0, none⟩))]
set_option maxHeartbeats 1600000 in
theorem zkv (t x b0 b1 b2 k : Nat) (τ : TxS) (s : DbS) (J : Unit -> World -> Prop) (Jx : Nat -> World -> Prop) (W : World) (hT : TxAt W t τ) (hD : DbAt W x s) (hx : τ.db = x) (q : Option Addr) (hq : τ.root = .pointer q) (hno : mayC s.poi τ.done false τ.write ≠ 0)
   (h0 : Blk W b0 29 #[.pointer (some ⟨t, 0, none⟩)]) (hJ : AbidesFrom W.heap.size J) (hJ0 : J () W)
   (hY : ∀ f W1, J () W1 -> zao W1 f ⟨#[97, 108, 108]⟩ (mayC s.poi τ.done false τ.write) -> YieldAt Fence.wide 2 Tryz.prog k (zj6 f) W1 fun e W' => e = .returned (.bool false) /\ Jx f W') :
   Calls Tryz.prog 140 #[.func (.yield k) #[] #[], .pointer (some ⟨b0, 0, none⟩), .pointer (some ⟨b1, 0, none⟩), .pointer (some ⟨b2, 0, none⟩)] W fun e W' => (∃ v, e = .returned v) /\ ∃ f, Jx f W' := by
 have hbA := (Below.refl W.heap.size W).alloc (Nat.le_refl _) (.cells #[.func (.yield k) #[] #[]] 226)
 have c0 := fun o => zaj o (zab h0 0 rfl)
 have HS := zaa (zhp t x τ s ⟨#[97, 108, 108]⟩ _ (hT.below hbA hT.lt) (hD.below hbA hD.lt) hx q hq)
 rw [hq] at HS
 have HD := zaa (hD.below hbA hD.lt)
 have HB := zaa hbA
 have HYB := zaa (Blk.new W 226 #[.func (.yield k) #[] #[]])
 have HJ := zaa (fun W' (h : Below W.heap.size W W') => hJ () W W' none hJ0 (Below.grown h) (fun r e => by cases e))
 have HY := zaa hY
 have HNO := zaa hno
 clear hT hD h0 hbA hJ hJ0 hY hno
 refine (callsIn_wide (n := 3)).1 ?_
 refine callsIn_of_wp Tryz.func140 rfl trivial ?_ rfl
 simp only [Tryz.ntmps140, List.size_toArray, List.length_cons, List.length_nil, Nat.reduceAdd, Nat.reduceSub, Array.replicate_succ, Array.replicate_zero, List.push_toArray, List.append_toArray, List.nil_append, List.cons_append]
 gi_wp2_with (refine ⟨trivial, ?_⟩; gi_at_call 66; go_loud (
  refine (callsIn_wide.2 HS.out).mono ?_; rintro e w1 ⟨v, rfl, hv, hd1, ht1, ho1⟩
  have hb1 := ho1.back HD.out hd1
  obtain ⟨f, rfl, hff⟩ := hv.fault HNO.out
  have hy1 := HYB.out.below hb1 HYB.out.lt
  have e1 := zab hy1 0 rfl
  have e1' := fun o => zaj o e1
  have hbw : Below W.heap.size W w1 := HB.out.trans (hb1.mono (by simp))
  unfold zag
  obtain ⟨fn, tmps, assign, body, hy, hR⟩ := HY.out f (w1.alloc (.cells #[.pointer q, .int .i64 τ.keys] 88)) (HJ.out _ (hbw.alloc hbw.size _)) (Blk.alloc hff _)
  unfold zj6 at hy
  clear hv hd1 ht1 ho1 hb1 hy1 hbw hff))
 refine hR.mono ?_
 rintro e W3 ⟨rfl, h⟩
 gi_wp2
 exact bodyPost_ret (results_none rfl _ _ _) rfl ⟨⟨_, rfl⟩, f, h⟩
set_option maxHeartbeats 2000000 in
theorem zro (t x : Nat) (τ : TxS) (s : DbS) (lo hi : ByteArray) (most : Int) (hm : 0 < most) (w : World) (hT : TxAt w t τ) (hD : DbAt w x s) (hx : τ.db = x) (q : Option Addr) (hq : τ.root = .pointer q) (hno : mayC s.poi τ.done false τ.write ≠ 0) :
   Calls Tryz.prog 64 #[.pointer (some ⟨t, 0, none⟩), .string lo, .string hi, .int .i64 most] w fun e w' => (∃ f, e = .returned (.tuple #[.slice none 0 0, zag f]) /\ zao w' f ⟨#[97, 108, 108]⟩ (mayC s.poi τ.done false τ.write)) /\ Below w.heap.size w w' := by
 have hml : ¬ most < 1 := by omega
 refine (callsIn_wide (n := 3)).1 ?_
 refine callsIn_of_wp_marks Tryz.func64 rfl trivial ?_ rfl
 simp only [Tryz.ntmps64, List.size_toArray, List.length_cons, List.length_nil, Nat.reduceAdd, Nat.reduceSub, Array.replicate_succ, Array.replicate_zero, List.push_toArray, List.append_toArray, List.nil_append, List.cons_append]
 gi_wp2_with (refine ⟨trivial, ?_⟩; gi_at_call 102; refine (callsIn_wide.2 (zf5 t lo hi _)).mono ?_; rintro e w' ⟨rfl, rfl⟩)
 obtain ⟨W0, hW0⟩ : ∃ W0, W0 = ((((((w.alloc (.cells #[.int .i64 most] 3)).alloc (.cells #[.slice none 0 0] 39)).alloc (.cells #[.nilIface] 31)).alloc (.cells #[.slice none 0 0] 39)).alloc (.cells #[.pointer (some ⟨t, 0, none⟩)] 29)).alloc (.cells #[.string lo] 9)).alloc (.cells #[.string hi] 9) := ⟨_, rfl⟩
 have hz : W0.heap.size = w.heap.size + 7 := by rw [hW0]; simp only [World.size_alloc]
 have hbel : Below w.heap.size w W0 := by
  rw [hW0]
  exact ((((((((Below.refl w.heap.size w).alloc (by simp) _).alloc (by simp) _).alloc (by simp; omega) _).alloc (by simp; omega) _).alloc (by simp; omega) _).alloc (by simp; omega) _).alloc (by simp; omega) _)
 have hR0 : Blk W0 w.heap.size 3 #[.int .i64 most] := by
  rw [hW0]
  exact ((((((Blk.new w _ _).alloc _).alloc _).alloc _).alloc _).alloc _).alloc _
 have hR1 : Blk W0 (w.heap.size + 1) 39 #[.slice none 0 0] := by
  rw [hW0]
  exact (((((Blk.new2 w _ _ _).alloc _).alloc _).alloc _).alloc _).alloc _
 have hR2 : Blk W0 (w.heap.size + 1 + 1) 31 #[.nilIface] := by
  rw [hW0]
  have := Blk.new2 (w.alloc (.cells #[.int .i64 most] 3)) (.cells #[.slice none 0 0] 39) 31 #[.nilIface]
  rw [World.size_alloc] at this
  exact (((this.alloc _).alloc _).alloc _).alloc _
 have hR3 : Blk W0 (w.heap.size + 1 + 1 + 1) 39 #[.slice none 0 0] := by
  rw [hW0]
  have := Blk.new (((w.alloc (.cells #[.int .i64 most] 3)).alloc (.cells #[.slice none 0 0] 39)).alloc (.cells #[.nilIface] 31)) 39 #[.slice none 0 0]
  simp only [World.size_alloc] at this
  exact ((this.alloc _).alloc _).alloc _
 have hB0 : Blk W0 (w.heap.size + 1 + 1 + 1 + 1) 29 #[.pointer (some ⟨t, 0, none⟩)] := by
  rw [hW0]
  have := Blk.new ((((w.alloc (.cells #[.int .i64 most] 3)).alloc (.cells #[.slice none 0 0] 39)).alloc (.cells #[.nilIface] 31)).alloc (.cells #[.slice none 0 0] 39)) 29 #[.pointer (some ⟨t, 0, none⟩)]
  simp only [World.size_alloc] at this
  exact (this.alloc _).alloc _
 have hB1 : Blk W0 (w.heap.size + 1 + 1 + 1 + 1 + 1) 9 #[.string lo] := by
  rw [hW0]
  have := Blk.new (((((w.alloc (.cells #[.int .i64 most] 3)).alloc (.cells #[.slice none 0 0] 39)).alloc (.cells #[.nilIface] 31)).alloc (.cells #[.slice none 0 0] 39)).alloc (.cells #[.pointer (some ⟨t, 0, none⟩)] 29)) 9 #[.string lo]
  simp only [World.size_alloc] at this
  exact this.alloc _
 have hB2 : Blk W0 (w.heap.size + 1 + 1 + 1 + 1 + 1 + 1) 9 #[.string hi] := by
  rw [hW0]
  have := Blk.new ((((((w.alloc (.cells #[.int .i64 most] 3)).alloc (.cells #[.slice none 0 0] 39)).alloc (.cells #[.nilIface] 31)).alloc (.cells #[.slice none 0 0] 39)).alloc (.cells #[.pointer (some ⟨t, 0, none⟩)] 29)).alloc (.cells #[.string lo] 9)) 9 #[.string hi]
  simp only [World.size_alloc] at this
  exact this
 have hT0 := hT.below hbel hT.lt
 have hD0 := hD.below hbel hD.lt
 rw [<- hW0]
 refine zfu rfl (by omega) (gf := 140) (lb := #[.pointer (some ⟨w.heap.size + 1 + 1 + 1 + 1, 0, none⟩), .pointer (some ⟨w.heap.size + 1 + 1 + 1 + 1 + 1, 0, none⟩), .pointer (some ⟨w.heap.size + 1 + 1 + 1 + 1 + 1 + 1, 0, none⟩)]) rfl trivial (enters_of Tryz.func140 (by kernel_rfl) rfl)
  (encs := zj6) (fun _ => rfl) (Good := fun f W => zao W f ⟨#[97, 108, 108]⟩ (mayC s.poi τ.done false τ.write)) ?hseq
  (fun _ W => Blk W (w.heap.size + 1) 39 #[.slice none 0 0] /\ Blk W (w.heap.size + 1 + 1) 31 #[.nilIface] /\ Below w.heap.size w W /\ W0.heap.size <= W.heap.size)
  (fun f W => Blk W (w.heap.size + 1) 39 #[.slice none 0 0] /\ Blk W (w.heap.size + 1 + 1) 31 #[zag f] /\ Below w.heap.size w W /\ W0.heap.size <= W.heap.size /\ zao W f ⟨#[97, 108, 108]⟩ (mayC s.poi τ.done false τ.write))
  (fun f W => zao W f ⟨#[97, 108, 108]⟩ (mayC s.poi τ.done false τ.write))
  (fun y a' W => ∃ Bx, W0.heap.size <= Bx /\ Blk W Bx 68 #[.string ⟨#[]⟩, .string ⟨#[]⟩] /\ a' = { tmps := #[.pointer (some ⟨t, 0, none⟩), .string lo, .string hi, .int .i64 most, undef, undef, undef, .pointer (some ⟨w.heap.size, 0, none⟩), .pointer (some ⟨w.heap.size + 1, 0, none⟩), .pointer (some ⟨w.heap.size + 1 + 1, 0, none⟩), .pointer (some ⟨w.heap.size + 1 + 1 + 1, 0, none⟩), .pointer (some ⟨Bx, 0, none⟩), .iface 128 (.pointer (some ⟨y, 0, none⟩)), .int .i64 most, .bool false, .pointer (some ⟨t, 0, none⟩), .string lo, .string hi, .func (.func 140) #[] #[.pointer (some ⟨w.heap.size + 1 + 1 + 1 + 1, 0, none⟩), .pointer (some ⟨w.heap.size + 1 + 1 + 1 + 1 + 1, 0, none⟩), .pointer (some ⟨w.heap.size + 1 + 1 + 1 + 1 + 1 + 1, 0, none⟩)], .agg #[.string ⟨#[]⟩, .string ⟨#[]⟩], .iface 128 (.pointer (some ⟨y, 0, none⟩)), undef, undef, undef, undef, undef, undef, undef, undef, undef, undef, undef, undef], defers := [] })
  ?hI ?hIx ?hAx ?hFr ⟨hR1, hR2, hbel, Nat.le_refl _⟩ ?hassign ?hbody ?stop
 case hseq =>
  intro l J Jx W hW hJ hY h0
  exact callsIn_wide.2 (zkv t x _ _ _ l τ s J Jx W (hT0.below hW hT0.lt) (hD0.below hW hD0.lt) hx q hq hno (hB0.below hW hB0.lt) hJ h0 (fun f W1 hj hf => YieldAt.any rfl 2 (hY f W1 hj hf)))
 case hI =>
  rintro _ W W' row ⟨h2, h3, hB, hsz⟩ hg hr
  have hr' := fun r e => (hr r e).2
  exact ⟨zaq h2 hg hr', zaq h3 hg hr', hB.grown hg hB.size fun k e => (by have := (hr k e).1; omega), Nat.le_trans hsz hg.size⟩
 case hIx =>
  rintro f W W' row ⟨h2, h3, hB, hsz, hf⟩ hg hr
  have hr' := fun r e => (hr r e).2
  exact ⟨zaq h2 hg hr', zaq h3 hg hr', hB.grown hg hB.size fun k e => (by have := (hr k e).1; omega), Nat.le_trans hsz hg.size, zaq hf hg hr'⟩
 case hAx => exact fun f W W' row hf hg hr => zaq hf hg (fun r e => (hr r e).2)
 case hFr =>
  rintro y a' _ W W' row ⟨Bx, h1, h2, h3⟩ hg hr
  exact ⟨Bx, h1, zaq h2 hg (fun r e => (hr r e).2), h3⟩
 case hassign =>
  rintro l y W K ⟨h2, h3, hB, hsz⟩ hf hK
  have hA := (Below.refl W.heap.size W).alloc (Nat.le_refl _) (.cells #[.string ⟨#[]⟩, .string ⟨#[]⟩] 68)
  have hX := Blk.new W 68 #[.string ⟨#[]⟩, .string ⟨#[]⟩]
  unfold zj6
  gi_wp2
  exact hK _ _ ((KeepsOthers.alloc _ _).from _) ⟨h2.alloc _, h3.alloc _, hB.trans (hA.mono hB.size), Nat.le_trans hsz hA.size⟩ (Blk.alloc hf _) ⟨_, hsz, hX, rfl⟩
 case hbody =>
  rintro l y a' W hl ⟨h2, h3, hB, hsz⟩ hf ⟨Bx, hBx, bX, rfl⟩
  have c2 := zab h2 0 rfl
  have c3 := zab h3 0 rfl
  have f2 := h2.frozen 0
  have f3 := h3.frozen 0
  have hy1 : y ≠ w.heap.size + 1 := Blk.ne_ hf h2 (by decide)
  have hy2 : y ≠ w.heap.size + 1 + 1 := Blk.ne_ hf h3 (by decide)
  have H2 := zaa h2
  have H3 := zaa h3
  have HF := zaa hf
  clear h2 h3 bX hf
  gi_wp2
  have hb2 : Below w.heap.size w ((W.setCell ⟨w.heap.size + 1, 0, none⟩ (.slice none 0 0)).setCell ⟨w.heap.size + 1 + 1, 0, none⟩ (.iface 128 (.pointer (some ⟨y, 0, none⟩)))) := (hB.setCell (p := ⟨w.heap.size + 1, 0, none⟩) (by simp) _).setCell (p := ⟨w.heap.size + 1 + 1, 0, none⟩) (by simp; omega) _
  exact ⟨((KeepsOthers.setCell _ _ _).trans (KeepsOthers.setCell _ _ _)).from _, (H2.out.set_ 0 _).far (p := ⟨w.heap.size + 1 + 1, 0, none⟩) (by simp) _, (H3.out.far (p := ⟨w.heap.size + 1, 0, none⟩) (by simp) _).set_ 0 _, hb2, (by omega), (Blk.far HF.out (p := ⟨w.heap.size + 1, 0, none⟩) hy1 _).far (p := ⟨w.heap.size + 1 + 1, 0, none⟩) hy2 _⟩
 case stop =>
  rintro D f W hDs ⟨h2, h3, hB, hsz, hf⟩ hK
  gi_wp2
  refine ⟨by simp, .inl ⟨_, _, rfl, run_takeDeferred hK, ?_⟩⟩
  have g := grownBy_putObj' W D (.deferred none)
  have d1 := cell_kept (zab h2 0 rfl) g (fun r e => by cases e; exact ⟨_, hK, rfl⟩)
  have d2 := cell_kept (zab h3 0 rfl) g (fun r e => by cases e; exact ⟨_, hK, rfl⟩)
  refine ⟨.tuple #[.slice none 0 0, zag f], by simp [results, Tryz.results64, go_sem, d1, d2], ⟨f, rfl, zaq hf g (fun r e => by cases e; exact ⟨_, hK, rfl⟩)⟩, ?_⟩
  exact ⟨g.os.trans hB.os, g.tape.trans hB.tape, g.output.trans hB.output, Nat.le_trans hB.size g.size, fun y hy => (g.block y (Nat.lt_of_lt_of_le hy hB.size) (fun e => by injection e; omega)).trans (hB.block y hy)⟩
set_option maxHeartbeats 2000000 in
theorem zp0 (t x : Nat) (τ : TxS) (s : DbS) (lo hi : ByteArray) (most : Int) (hm : most < 1) (w : World) (hT : TxAt w t τ) (hD : DbAt w x s) (hx : τ.db = x) (q : Option Addr) (hq : τ.root = .pointer q) (hno : mayC s.poi τ.done false τ.write ≠ 0) :
   Calls Tryz.prog 64 #[.pointer (some ⟨t, 0, none⟩), .string lo, .string hi, .int .i64 most] w fun e w' => (∃ f, e = .returned (.tuple #[.slice none 0 0, zag f]) /\ zao w' f ⟨#[97, 108, 108]⟩ (mayC s.poi τ.done false τ.write)) /\ Below w.heap.size w w' := by
 have hml : most < 1 := hm
 refine (callsIn_wide (n := 3)).1 ?_
 refine callsIn_of_wp_marks Tryz.func64 rfl trivial ?_ rfl
 simp only [Tryz.ntmps64, List.size_toArray, List.length_cons, List.length_nil, Nat.reduceAdd, Nat.reduceSub, Array.replicate_succ, Array.replicate_zero, List.push_toArray, List.append_toArray, List.nil_append, List.cons_append]
 gi_wp2_with (refine ⟨trivial, ?_⟩; gi_at_call 102; refine (callsIn_wide.2 (zf5 t lo hi _)).mono ?_; rintro e w' ⟨rfl, rfl⟩)
 obtain ⟨W0, hW0⟩ : ∃ W0, W0 = ((((((w.alloc (.cells #[.int .i64 0] 3)).alloc (.cells #[.slice none 0 0] 39)).alloc (.cells #[.nilIface] 31)).alloc (.cells #[.slice none 0 0] 39)).alloc (.cells #[.pointer (some ⟨t, 0, none⟩)] 29)).alloc (.cells #[.string lo] 9)).alloc (.cells #[.string hi] 9) := ⟨_, rfl⟩
 have hz : W0.heap.size = w.heap.size + 7 := by rw [hW0]; simp only [World.size_alloc]
 have hbel : Below w.heap.size w W0 := by
  rw [hW0]
  exact ((((((((Below.refl w.heap.size w).alloc (by simp) _).alloc (by simp) _).alloc (by simp; omega) _).alloc (by simp; omega) _).alloc (by simp; omega) _).alloc (by simp; omega) _).alloc (by simp; omega) _)
 have hR0 : Blk W0 w.heap.size 3 #[.int .i64 0] := by
  rw [hW0]
  exact ((((((Blk.new w _ _).alloc _).alloc _).alloc _).alloc _).alloc _).alloc _
 have hR1 : Blk W0 (w.heap.size + 1) 39 #[.slice none 0 0] := by
  rw [hW0]
  exact (((((Blk.new2 w _ _ _).alloc _).alloc _).alloc _).alloc _).alloc _
 have hR2 : Blk W0 (w.heap.size + 1 + 1) 31 #[.nilIface] := by
  rw [hW0]
  have := Blk.new2 (w.alloc (.cells #[.int .i64 0] 3)) (.cells #[.slice none 0 0] 39) 31 #[.nilIface]
  rw [World.size_alloc] at this
  exact (((this.alloc _).alloc _).alloc _).alloc _
 have hR3 : Blk W0 (w.heap.size + 1 + 1 + 1) 39 #[.slice none 0 0] := by
  rw [hW0]
  have := Blk.new (((w.alloc (.cells #[.int .i64 0] 3)).alloc (.cells #[.slice none 0 0] 39)).alloc (.cells #[.nilIface] 31)) 39 #[.slice none 0 0]
  simp only [World.size_alloc] at this
  exact ((this.alloc _).alloc _).alloc _
 have hB0 : Blk W0 (w.heap.size + 1 + 1 + 1 + 1) 29 #[.pointer (some ⟨t, 0, none⟩)] := by
  rw [hW0]
  have := Blk.new ((((w.alloc (.cells #[.int .i64 0] 3)).alloc (.cells #[.slice none 0 0] 39)).alloc (.cells #[.nilIface] 31)).alloc (.cells #[.slice none 0 0] 39)) 29 #[.pointer (some ⟨t, 0, none⟩)]
  simp only [World.size_alloc] at this
  exact (this.alloc _).alloc _
 have hB1 : Blk W0 (w.heap.size + 1 + 1 + 1 + 1 + 1) 9 #[.string lo] := by
  rw [hW0]
  have := Blk.new (((((w.alloc (.cells #[.int .i64 0] 3)).alloc (.cells #[.slice none 0 0] 39)).alloc (.cells #[.nilIface] 31)).alloc (.cells #[.slice none 0 0] 39)).alloc (.cells #[.pointer (some ⟨t, 0, none⟩)] 29)) 9 #[.string lo]
  simp only [World.size_alloc] at this
  exact this.alloc _
 have hB2 : Blk W0 (w.heap.size + 1 + 1 + 1 + 1 + 1 + 1) 9 #[.string hi] := by
  rw [hW0]
  have := Blk.new ((((((w.alloc (.cells #[.int .i64 0] 3)).alloc (.cells #[.slice none 0 0] 39)).alloc (.cells #[.nilIface] 31)).alloc (.cells #[.slice none 0 0] 39)).alloc (.cells #[.pointer (some ⟨t, 0, none⟩)] 29)).alloc (.cells #[.string lo] 9)) 9 #[.string hi]
  simp only [World.size_alloc] at this
  exact this
 have hT0 := hT.below hbel hT.lt
 have hD0 := hD.below hbel hD.lt
 rw [<- hW0]
 refine zfu rfl (by omega) (gf := 140) (lb := #[.pointer (some ⟨w.heap.size + 1 + 1 + 1 + 1, 0, none⟩), .pointer (some ⟨w.heap.size + 1 + 1 + 1 + 1 + 1, 0, none⟩), .pointer (some ⟨w.heap.size + 1 + 1 + 1 + 1 + 1 + 1, 0, none⟩)]) rfl trivial (enters_of Tryz.func140 (by kernel_rfl) rfl)
  (encs := zj6) (fun _ => rfl) (Good := fun f W => zao W f ⟨#[97, 108, 108]⟩ (mayC s.poi τ.done false τ.write)) ?hseq
  (fun _ W => Blk W (w.heap.size + 1) 39 #[.slice none 0 0] /\ Blk W (w.heap.size + 1 + 1) 31 #[.nilIface] /\ Below w.heap.size w W /\ W0.heap.size <= W.heap.size)
  (fun f W => Blk W (w.heap.size + 1) 39 #[.slice none 0 0] /\ Blk W (w.heap.size + 1 + 1) 31 #[zag f] /\ Below w.heap.size w W /\ W0.heap.size <= W.heap.size /\ zao W f ⟨#[97, 108, 108]⟩ (mayC s.poi τ.done false τ.write))
  (fun f W => zao W f ⟨#[97, 108, 108]⟩ (mayC s.poi τ.done false τ.write))
  (fun y a' W => ∃ Bx, W0.heap.size <= Bx /\ Blk W Bx 68 #[.string ⟨#[]⟩, .string ⟨#[]⟩] /\ a' = { tmps := #[.pointer (some ⟨t, 0, none⟩), .string lo, .string hi, .int .i64 most, undef, undef, undef, .pointer (some ⟨w.heap.size, 0, none⟩), .pointer (some ⟨w.heap.size + 1, 0, none⟩), .pointer (some ⟨w.heap.size + 1 + 1, 0, none⟩), .pointer (some ⟨w.heap.size + 1 + 1 + 1, 0, none⟩), .pointer (some ⟨Bx, 0, none⟩), .iface 128 (.pointer (some ⟨y, 0, none⟩)), .int .i64 most, .bool true, .pointer (some ⟨t, 0, none⟩), .string lo, .string hi, .func (.func 140) #[] #[.pointer (some ⟨w.heap.size + 1 + 1 + 1 + 1, 0, none⟩), .pointer (some ⟨w.heap.size + 1 + 1 + 1 + 1 + 1, 0, none⟩), .pointer (some ⟨w.heap.size + 1 + 1 + 1 + 1 + 1 + 1, 0, none⟩)], .agg #[.string ⟨#[]⟩, .string ⟨#[]⟩], .iface 128 (.pointer (some ⟨y, 0, none⟩)), undef, undef, undef, undef, undef, undef, undef, undef, undef, undef, undef, undef], defers := [] })
  ?hI ?hIx ?hAx ?hFr ⟨hR1, hR2, hbel, Nat.le_refl _⟩ ?hassign ?hbody ?stop
 case hseq =>
  intro l J Jx W hW hJ hY h0
  exact callsIn_wide.2 (zkv t x _ _ _ l τ s J Jx W (hT0.below hW hT0.lt) (hD0.below hW hD0.lt) hx q hq hno (hB0.below hW hB0.lt) hJ h0 (fun f W1 hj hf => YieldAt.any rfl 2 (hY f W1 hj hf)))
 case hI =>
  rintro _ W W' row ⟨h2, h3, hB, hsz⟩ hg hr
  have hr' := fun r e => (hr r e).2
  exact ⟨zaq h2 hg hr', zaq h3 hg hr', hB.grown hg hB.size fun k e => (by have := (hr k e).1; omega), Nat.le_trans hsz hg.size⟩
 case hIx =>
  rintro f W W' row ⟨h2, h3, hB, hsz, hf⟩ hg hr
  have hr' := fun r e => (hr r e).2
  exact ⟨zaq h2 hg hr', zaq h3 hg hr', hB.grown hg hB.size fun k e => (by have := (hr k e).1; omega), Nat.le_trans hsz hg.size, zaq hf hg hr'⟩
 case hAx => exact fun f W W' row hf hg hr => zaq hf hg (fun r e => (hr r e).2)
 case hFr =>
  rintro y a' _ W W' row ⟨Bx, h1, h2, h3⟩ hg hr
  exact ⟨Bx, h1, zaq h2 hg (fun r e => (hr r e).2), h3⟩
 case hassign =>
  rintro l y W K ⟨h2, h3, hB, hsz⟩ hf hK
  have hA := (Below.refl W.heap.size W).alloc (Nat.le_refl _) (.cells #[.string ⟨#[]⟩, .string ⟨#[]⟩] 68)
  have hX := Blk.new W 68 #[.string ⟨#[]⟩, .string ⟨#[]⟩]
  unfold zj6
  gi_wp2
  exact hK _ _ ((KeepsOthers.alloc _ _).from _) ⟨h2.alloc _, h3.alloc _, hB.trans (hA.mono hB.size), Nat.le_trans hsz hA.size⟩ (Blk.alloc hf _) ⟨_, hsz, hX, rfl⟩
 case hbody =>
  rintro l y a' W hl ⟨h2, h3, hB, hsz⟩ hf ⟨Bx, hBx, bX, rfl⟩
  have c2 := zab h2 0 rfl
  have c3 := zab h3 0 rfl
  have f2 := h2.frozen 0
  have f3 := h3.frozen 0
  have hy1 : y ≠ w.heap.size + 1 := Blk.ne_ hf h2 (by decide)
  have hy2 : y ≠ w.heap.size + 1 + 1 := Blk.ne_ hf h3 (by decide)
  have H2 := zaa h2
  have H3 := zaa h3
  have HF := zaa hf
  clear h2 h3 bX hf
  gi_wp2
  have hb2 : Below w.heap.size w ((W.setCell ⟨w.heap.size + 1, 0, none⟩ (.slice none 0 0)).setCell ⟨w.heap.size + 1 + 1, 0, none⟩ (.iface 128 (.pointer (some ⟨y, 0, none⟩)))) := (hB.setCell (p := ⟨w.heap.size + 1, 0, none⟩) (by simp) _).setCell (p := ⟨w.heap.size + 1 + 1, 0, none⟩) (by simp; omega) _
  exact ⟨((KeepsOthers.setCell _ _ _).trans (KeepsOthers.setCell _ _ _)).from _, (H2.out.set_ 0 _).far (p := ⟨w.heap.size + 1 + 1, 0, none⟩) (by simp) _, (H3.out.far (p := ⟨w.heap.size + 1, 0, none⟩) (by simp) _).set_ 0 _, hb2, (by omega), (Blk.far HF.out (p := ⟨w.heap.size + 1, 0, none⟩) hy1 _).far (p := ⟨w.heap.size + 1 + 1, 0, none⟩) hy2 _⟩
 case stop =>
  rintro D f W hDs ⟨h2, h3, hB, hsz, hf⟩ hK
  gi_wp2
  refine ⟨by simp, .inl ⟨_, _, rfl, run_takeDeferred hK, ?_⟩⟩
  have g := grownBy_putObj' W D (.deferred none)
  have d1 := cell_kept (zab h2 0 rfl) g (fun r e => by cases e; exact ⟨_, hK, rfl⟩)
  have d2 := cell_kept (zab h3 0 rfl) g (fun r e => by cases e; exact ⟨_, hK, rfl⟩)
  refine ⟨.tuple #[.slice none 0 0, zag f], by simp [results, Tryz.results64, go_sem, d1, d2], ⟨f, rfl, zaq hf g (fun r e => by cases e; exact ⟨_, hK, rfl⟩)⟩, ?_⟩
  exact ⟨g.os.trans hB.os, g.tape.trans hB.tape, g.output.trans hB.output, Nat.le_trans hB.size g.size, fun y hy => (g.block y (Nat.lt_of_lt_of_le hy hB.size) (fun e => by injection e; omega)).trans (hB.block y hy)⟩
attribute [local go_sem] Oper.semAt_some
def zcy (T : Tree) (lo hi : Str) : List (Str × Str) := (zb4 T lo).takeWhile fun e => slt e.1 hi
theorem ztg {T : Tree} {lo hi : Str} (h : ∀ e ∈ zb4 T lo, slt e.1 hi = true) : zcy T lo hi = zb4 T lo := by
 unfold zcy
 have := List.takeWhile_append_of_pos (l₂ := []) h
 simpa using this
theorem zg1 {α : Type} {p : α -> Bool} : ∀ (a : List α) (y : α) (b : List α), (∀ e ∈ a, p e = true) -> p y = false -> (a ++ y :: b).takeWhile p = a
 | [], y, b, _, h => by simp [h]
 | x :: a, y, b, h1, h => by
   rw [List.cons_append, List.takeWhile_cons, if_pos (h1 x (by simp)), zg1 a y b (fun e he => h1 e (by simp [he])) h]
theorem zrp {T : Tree} {lo hi : Str} {p : List (Str × Str)} {y : Str × Str} (h1 : ∀ e ∈ p, slt e.1 hi = true) (h2 : slt y.1 hi = false) (h3 : p ++ [y] <+: zb4 T lo) : zcy T lo hi = p := by
 obtain ⟨b, hb⟩ := h3
 unfold zcy
 rw [<- hb, List.append_assoc, List.singleton_append]
 exact zg1 p y b h1 h2
theorem zth {T : Tree} {lo hi : Str} {p : List (Str × Str)} (h : p <+: zb4 T lo) (h1 : ∀ e ∈ p, slt e.1 hi = true) : p <+: zcy T lo hi := by
 obtain ⟨b, hb⟩ := h
 unfold zcy
 rw [<- hb, List.takeWhile_append_of_pos h1]
 exact ⟨_, rfl⟩
set_option maxHeartbeats 1000000 in
theorem zp1 (b1 b2 : Nat) (x : Str × Str) (hi : Str) (W : World) (hlt : slt x.1 hi = false) (h1 : Blk W b1 9 #[.string hi]) :
   Calls Tryz.prog 141 #[.agg #[.string x.1, .string x.2], .pointer (some ⟨b1, 0, none⟩), .pointer (some ⟨b2, 0, none⟩)] W fun e W' => e = .returned (.bool false) /\ W' = W.alloc (.cells #[.string x.1, .string x.2] 68) := by
 have c1 := fun o => zaj o (zab h1 0 rfl)
 have hb : Op.bytesLess x.1.toList hi.toList = false := hlt
 clear h1 hlt
 go_enter Tryz.func141, Tryz.ntmps141
 go_wp2
 go_ret
 exact ⟨rfl, rfl⟩
set_option maxHeartbeats 1600000 in
theorem zol (t x b0 b1 b2 k : Nat) (τ : TxS) (s : DbS) (T : Tree) (ds : List Nat) (n0 : Nat) (lo hi : ByteArray) (J Jx : List (Str × Str) -> World -> Prop) (W : World) (hT : TxAt W t τ) (hD : DbAt W x s) (hx : τ.db = x) (hk : τ.keys = T.keys) (hok : mayC s.poi τ.done false τ.write = 0)
   (hV : TreeV (fun z => z < n0) W T τ.root ds) (hR : TR T) (hp : T.pairs.length <= 150) 
   (h0 : Blk W b0 29 #[.pointer (some ⟨t, 0, none⟩)]) (h1 : Blk W b1 9 #[.string lo]) (h2 : Blk W b2 9 #[.string hi]) (hn0 : n0 <= W.heap.size)
   (hJ : AbidesFrom W.heap.size J) (_hJx : AbidesFrom W.heap.size Jx) (hJ0 : J [] W)
   (hY : ∀ pre x W1, J pre W1 -> pre.length < 200 -> YieldAt Fence.wide 2 Tryz.prog k (zmj x) W1 fun e W' => (e = .returned (.bool true) /\ J (pre ++ [x]) W' /\ KpY n0 W1 W') \/ (e = .returned (.bool false) /\ Jx (pre ++ [x]) W')) :
   Calls Tryz.prog 140 #[.func (.yield k) #[] #[], .pointer (some ⟨b0, 0, none⟩), .pointer (some ⟨b1, 0, none⟩), .pointer (some ⟨b2, 0, none⟩)] W fun e W' => (∃ v, e = .returned v) /\ ((∃ xs, xs = zcy T lo hi /\ J xs W') \/ ∃ pre, pre <+: zcy T lo hi /\ Jx pre W') := by
 have hmf : ∀ (fn : Fn) (first cap : Array Value) (w : World), (Instr.makeFunc fn first cap).run Tryz.prog w = .ok (.func fn first cap) w := fun _ _ _ _ => rfl
 obtain ⟨q, hq⟩ := hV.ptr
 have hbA := (Below.refl W.heap.size W).alloc (Nat.le_refl _) (.cells #[.func (.yield k) #[] #[]] 226)
 have c0 := fun o => zaj o (zab h0 0 rfl)
 have HS := zaa (zhp t x τ s ⟨#[97, 108, 108]⟩ _ (hT.below hbA hT.lt) (hD.below hbA hD.lt) hx q hq)
 rw [hok, hq, hk] at HS
 have hLp : ∀ (pre : List (Str × Str)) y, pre ++ [y] <+: zb4 T lo -> y ∈ T.pairs /\ pre.length < 200 := fun pre y hpre => by
  have hmem : y ∈ zb4 T lo := hpre.subset (by simp)
  have hlen := hpre.length_le
  have hl2 : (zb4 T lo).length <= T.pairs.length := by unfold zb4; rw [List.length_drop]; omega
  refine ⟨?_, ?_⟩
  . unfold zb4 at hmem; exact List.mem_of_mem_drop hmem
  . simp only [List.length_append, List.length_cons, List.length_nil] at hlen; omega
 have hJ' : ∀ pre V V', ((J pre V /\ ∀ e ∈ pre, slt e.1 hi = true) /\ Blk V b2 9 #[.string hi] /\ Blk V W.heap.size 226 #[.func (.yield k) #[] #[]]) -> Below V.heap.size V V' -> ((J pre V' /\ ∀ e ∈ pre, slt e.1 hi = true) /\ Blk V' b2 9 #[.string hi] /\ Blk V' W.heap.size 226 #[.func (.yield k) #[] #[]]) :=
  fun pre V V' h hb => ⟨⟨hJ pre V V' none h.1.1 (Below.grown hb) (fun r e => by cases e), h.1.2⟩, h.2.1.below hb h.2.1.lt, h.2.2.below hb h.2.2.lt⟩
 have HE := zaa (fun (We : World) (hbe : Below W.heap.size W We) (hye : Blk We W.heap.size 226 #[.func (.yield k) #[] #[]]) => zvb (n₀ := n0) (L := zb4 T lo) (J := fun pre V => (J pre V /\ ∀ e ∈ pre, slt e.1 hi = true) /\ Blk V b2 9 #[.string hi] /\ Blk V W.heap.size 226 #[.func (.yield k) #[] #[]]) (Jx := fun pre V => (Jx pre V /\ ∀ e ∈ pre, slt e.1 hi = true) \/ ∃ p y, pre = p ++ [y] /\ (∀ e ∈ p, slt e.1 hi = true) /\ slt y.1 hi = false /\ p ++ [y] <+: zb4 T lo /\ J p V) (q1 := b2) (q2 := W.heap.size) hJ'
  (fun pre y V hj hpre _ => by
   obtain ⟨hm, hl⟩ := hLp pre y hpre
   have hbp : Below V.heap.size V (V.alloc (.cells #[.string y.1, .string y.2] 68)) := (Below.refl _ _).alloc (Nat.le_refl _) _
   cases hlt : slt y.1 hi with
   | false =>
     refine (zp1 b2 W.heap.size y hi V hlt hj.2.1).mono ?_
     rintro e W' ⟨rfl, rfl⟩
     exact .inr ⟨rfl, .inr ⟨pre, y, rfl, hj.1.2, hlt, hpre, hJ pre V _ none hj.1.1 (Below.grown hbp) (fun r e => by cases e)⟩⟩
   | true =>
     refine (zrb k b2 W.heap.size y hi V (fun W' => J (pre ++ [y]) W' /\ KpY n0 (V.alloc (.cells #[.string y.1, .string y.2] 68)) W') (Jx (pre ++ [y])) hlt hj.2.1 hj.2.2 (hY pre y _ (hJ pre V _ none hj.1.1 (Below.grown hbp) (fun r e => by cases e)) hl)).mono ?_
     rintro e W' (⟨rfl, hj', hk'⟩ | ⟨rfl, hjx⟩)
     . exact .inl ⟨rfl, ⟨⟨hj', fun e he => by rcases List.mem_append.1 he with k2 | k2; exact hj.1.2 e k2; rw [List.mem_singleton.1 k2]; exact hlt⟩, hk'.2 _ _ _ (.inr rfl) (hj.2.1.below hbp hj.2.1.lt), hk'.2 _ _ _ (.inl rfl) (hj.2.2.below hbp hj.2.2.lt)⟩, (hbp.mono (by assumption)).trans hk'.1⟩
     . exact .inr ⟨rfl, .inl ⟨hjx, fun e he => by rcases List.mem_append.1 he with k2 | k2; exact hj.1.2 e k2; rw [List.mem_singleton.1 k2]; exact hlt⟩⟩)
  T (.pointer q) ds lo We (((hq ▸ hV : TreeV (fun z => z < n0) W T (.pointer q) ds)).below hbe (fun _ h => h)) hR hp (List.prefix_refl _) ⟨⟨hJ [] W We none hJ0 (Below.grown hbe) (fun r e => by cases e), fun e he => by cases he⟩, h2.below hbe h2.lt, hye⟩ (Nat.le_trans hn0 hbe.size))
 unfold za0 at HE
 have HD := zaa (hD.below hbA hD.lt)
 have HB := zaa hbA
 have H1 := zaa (h1.below hbA h1.lt)
 have HYB := zaa (Blk.new W 226 #[.func (.yield k) #[] #[]])
 clear hT hD h0 h1 hbA hJ _hJx hJ0 hY hV hR hp hLp hJ'
 go_enter Tryz.func140, Tryz.ntmps140
 go_wp2_with (first
  | (go_at_call 66; go_loud (
     refine HS.out.mono ?_; rintro e w1 ⟨v, rfl, hv, hd1, ht1, ho1⟩
     have hb1 := ho1.back HD.out hd1
     obtain rfl : v = .nilIface := by
      rcases hv with h | h
      . exact h.2
      . exact absurd rfl h.1
     have e1 := fun o => zaj o (zab (H1.out.below hb1 H1.out.lt) 0 rfl)
     have HB1 := zaa hb1
     clear hb1 hv hd1 ht1 ho1))
  | (go_at_call 105; go_loud (
     refine (HE.out _ ((HB.out.trans (HB1.out.mono (by simp))).alloc (Nat.le_trans (Nat.le_of_lt HYB.out.lt) (Nat.le_trans (Nat.le_of_eq rfl) HB1.out.size) |> fun h => by simpa using Nat.le_of_lt (Nat.lt_of_lt_of_le HYB.out.lt HB1.out.size)) _) ((HYB.out.below HB1.out HYB.out.lt).alloc _)).mono ?_; rintro e w3 ⟨rfl, h3⟩)))
 go_end0
 refine ⟨⟨_, rfl⟩, ?_⟩
 rcases h3 with ⟨h3, _⟩ | ⟨q', hq', ⟨h3, h8⟩ | ⟨p, y, rfl, h4, h5, h6, h7⟩⟩
 . exact .inl ⟨_, (ztg h3.1.2).symm, h3.1.1⟩
 . exact .inr ⟨q', zth hq' h8, h3⟩
 . exact .inl ⟨_, (zrp h4 h5 h6).symm, h7⟩
end Go.Proofs.YtemondlgcmpbbaaGreatDoor
