/- Yp Ya Yb: merged. -/
import Derived.Test.YtemondlgcmpbbaaGreatDoorMP12
import Derived.Deep.RegionHeld3
import Derived.Test.YtemondlgcmpbbaaGreatDoorMP05
import Derived.Test.YtemondlgcmpbbaaGreatDoorMP20
import Derived.WalkLawsBesides
import Derived.Test.YtemondlgcmpbbaaGreatDoorMP23
namespace Go.Proofs.YtemondlgcmpbbaaGreatDoor
open Go.RowKit
set_option maxRecDepth 100000
section
variable {P : Program} {w : World} {ops : Array Oper} {a : Act} {Q : Exit -> Act -> World -> Prop} {v6 : Value} {D : List Deferred} {C : List PanicEntry -> World -> Prop}
def PanicAt (v6 : Value) (D : List Deferred) (C : List PanicEntry -> World -> Prop) (Q : Exit -> Act -> World -> Prop) : Exit -> Act -> World -> Prop
 | .panic c, a, w => a.defers = D /\ a.tmps[6]? = some v6 /\ C c w
 | e, a, w => Q e a w
theorem zga {id : Nat} {dr : Bool} (hC : ∀ c a w, a.defers = D -> a.tmps[6]? = some v6 -> C c w -> Q (.panic c) a w) (h : (Code.region id ops dr).wp P (PanicAt v6 D C Q) a w) : (Code.region id ops dr).wp P Q a w :=
 Code.wp_mono (fun e a w h => by cases e <;> first | exact h | exact hC _ _ _ h.1 h.2.1 h.2.2) h
theorem PanicAt.normal (h : Q .normal a w) : PanicAt v6 D C Q .normal a w := h
theorem PanicAt.put {d : Option Tmp} {v : Value} (hk : d ≠ some 6) (c : List PanicEntry) (a : Act) (w : World) (h : PanicAt v6 D C Q (.panic c) (a.put d v) w) : PanicAt v6 D C Q (.panic c) a w := by
 cases d with
 | none => exact h
 | some k =>
   obtain ⟨h1, h2, h3⟩ := h
   refine ⟨h1, ?_, h3⟩
   have hne : k ≠ 6 := fun e => hk (by rw [e])
   simpa [Act.put, Array.getElem?_setIfInBounds, hne] using h2
theorem zbm {S : World -> Prop} {md : Region.Mode} (i : Nat) {oi : Oper} (v : Value) {fuel : Nat} {listed : Array Bool} (d : Option Tmp) (hi : ops[i]? = some oi) (hd : oi.dst = d) (hy : YieldsIf P ops S oi v a) (hS : S w) (h : wpAnyH P md ops (PanicAt v6 D C Q) S fuel (listed.setIfInBounds i true) (a.put d v) w)
   (hs : Region.noSelect ops = true := by kernel_rfl) (hf : Region.free md ops listed i = true := by kernel_rfl) (hr : (Region.ready md ops listed).contains i = true := by kernel_rfl) (hk : d ≠ some 6 := by decide) : wpAnyH P md ops (PanicAt v6 D C Q) S (fuel + 1) listed a w :=
 za4 d hi hd hs hf hr (PanicAt.put hk) hy hS h
theorem zke {S : World -> Prop} {md : Region.Mode} {i fuel : Nat} {listed : Array Bool} {o : Oper} {f : FuncId} {args : Array Value} (d : Option Tmp) (hr : Region.ready md ops listed = [i]) (ho : ops[i]? = some o) (hd : o.dst = d) (hw : Region.wanted o (yielded ops a.tmps) = true)
   (hrun : (execOp a.eval o).run P w = .ok (.enter f args) w) {R : Ending -> World -> Prop} (hc : Calls P f args w R) (hD : a.defers = D) (h6 : a.tmps[6]? = some v6)
   (h : ∀ e w', R e w' -> (∃ v, e = .returned v /\ S w' /\ wpAnyH P md ops (PanicAt v6 D C Q) S fuel (listed.setIfInBounds i true) (a.put d v) w') \/ ∃ c, e = .panicked c /\ C c w') : wpAnyH P md ops (PanicAt v6 D C Q) S (fuel + 1) listed a w := by
 subst hd
 refine zaw hr ho hw ?_
 unfold Oper.wp
 rw [hrun]
 refine hc.mono fun e w' hh => ?_
 rcases h e w' hh with ⟨v, rfl, h2⟩ | ⟨c, rfl, h2⟩
 . exact h2
 . exact ⟨hD, h6, h2⟩
end
def zfr : ByteArray := ⟨#[100, 101, 118, 105, 99, 101]⟩
def zgp : ByteArray := ⟨#[99, 111, 109, 109, 105, 116]⟩
def zfw : Value := .iface 44 (.int .i64 8)
def thrown (f : Nat) : Ending := .panicked [{ v := .iface 128 (.pointer (some ⟨f, 0, none⟩)), recovered := false }]
theorem znx (w : World) : Calls Tryz.prog 133 #[zfw] w fun e w' => e = thrown w.heap.size /\ w' = w.alloc (.cells #[.string zfr, zfw] 130) := by
 unfold zfw thrown
 go_enter Tryz.func133, Tryz.ntmps133
 go_wp2
 exact ⟨rfl, rfl, rfl⟩
theorem zv7 (b : Nat) (bv cv x y : Value) (m : Nums) (w : World) (h : DkAt w b bv cv m) (hs : m.small) (hb : m.bad = true) :
   Calls Tryz.prog 240 #[.pointer (some ⟨b, 0, none⟩), x, y] w fun e w' => e = .returned zfw /\ DkAt w' b bv cv m.tick /\ Only (· = b) w w' := by
 have HF := zaa (zfy b bv cv m w h hs)
 rw [hb] at HF
 clear h
 unfold zfw
 go_enter Tryz.func240, Tryz.ntmps240
 go_wp2_with (go_at_call 241; go_loud (refine HF.out.mono ?_; rintro e w1 ⟨rfl, hd, ho⟩; have HD := zaa hd; have HO := zaa ho; clear hd ho))
 go_ret
 exact ⟨rfl, HD.out, HO.out⟩
theorem zv8 (b : Nat) (bv cv : Value) (m : Nums) (w : World) (h : DkAt w b bv cv m) (hs : m.small) (hb : m.bad = true) :
   Calls Tryz.prog 238 #[.pointer (some ⟨b, 0, none⟩)] w fun e w' => e = .returned zfw /\ DkAt w' b bv cv m.tick /\ Only (· = b) w w' := by
 have HF := zaa (zfy b bv cv m w h hs)
 rw [hb] at HF
 clear h
 unfold zfw
 go_enter Tryz.func238, Tryz.ntmps238
 go_wp2_with (go_at_call 241; go_loud (refine HF.out.mono ?_; rintro e w1 ⟨rfl, hd, ho⟩; have HD := zaa hd; have HO := zaa ho; clear hd ho))
 go_ret
 exact ⟨rfl, HD.out, HO.out⟩
def zen (w : World) (f : Nat) : Prop := Blk w f 130 #[.string zfr, zfw]
theorem zs3 {w w' : World} {K b g base n : Nat} {cv : Value} {m : Nums} {bytes : List UInt8} {cache : List (Nat × List UInt8)} (h : Dk w K b g base n cv m bytes cache) (hd : DkAt w' b (.slice (some ⟨g, 0, none⟩) n (zdb bytes)) cv m.tick) (ho : Only (· = b) w w') : Dk w' (K + 1) b g base n cv m.tick bytes cache :=
 ⟨hd, Blk.only h.blk ho (h.at_.ne_ h.blk (by decide)).symm, h.len, h.cap, za0 h.own ho (zda h.at_ (by decide)), h.ok, h.many, h.num.tick, h.fits, Nat.le_trans h.base_ ho.size⟩
theorem zuj (K b g base n : Nat) (x y cv : Value) (m : Nums) (bytes : List UInt8) (cache : List (Nat × List UInt8)) (w : World) (h : Dk w K b g base n cv m bytes cache) (hb : m.bad = true) (hK : K < zbf) :
   Calls Tryz.prog 92 #[vol b, x, y] w fun e w' => ∃ f, e = thrown f /\ zen w' f /\ w.heap.size <= f /\ Dk w' (K + 1) b g base n cv m.tick bytes cache /\ Only (· = b) w w' := by
 have hbel : Below w.heap.size w (w.alloc (Obj.cells #[.iface 23 (.pointer (some ⟨b, 0, none⟩))] 147)) := (Below.refl _ _).alloc (Nat.le_refl _) _
 have h' := h.below hbel
 have HR := zaa (zv7 b _ cv x y m _ h'.at_ (h.num.small (by omega)) hb)
 have mR := zsc
 have H' := zaa h'
 clear h h' hbel
 unfold vol
 go_enter Tryz.func92, Tryz.ntmps92
 go_wp2_with (first
  | (go_at_call 240; refine HR.out.mono ?_; rintro e w1 ⟨rfl, hd, ho⟩)
  | (go_at_call 133; refine (znx _).mono ?_; unfold thrown; rintro e w' ⟨rfl, rfl⟩))
 have hb1 : Below w1.heap.size w1 (w1.alloc (.cells #[.string zfr, zfw] 130)) := (Below.refl _ _).alloc (Nat.le_refl _) _
 have ho1 : Only (· = b) w w1 := ((Only.refl _ _).alloc _).trans ho
 exact ⟨rfl, w1.heap.size, rfl, Blk.new w1 _ _, ho1.size, (zs3 H'.out hd ho).below hb1, ho1.alloc _⟩
theorem zuk (K b g base n : Nat) (cv : Value) (m : Nums) (bytes : List UInt8) (cache : List (Nat × List UInt8)) (w : World) (h : Dk w K b g base n cv m bytes cache) (hb : m.bad = true) (hK : K < zbf) :
   Calls Tryz.prog 94 #[vol b] w fun e w' => ∃ f, e = thrown f /\ zen w' f /\ w.heap.size <= f /\ Dk w' (K + 1) b g base n cv m.tick bytes cache /\ Only (· = b) w w' := by
 have hbel : Below w.heap.size w (w.alloc (Obj.cells #[.iface 23 (.pointer (some ⟨b, 0, none⟩))] 147)) := (Below.refl _ _).alloc (Nat.le_refl _) _
 have h' := h.below hbel
 have HR := zaa (zv8 b _ cv m _ h'.at_ (h.num.small (by omega)) hb)
 have mR := zsd
 have H' := zaa h'
 clear h h' hbel
 unfold vol
 go_enter Tryz.func94, Tryz.ntmps94
 go_wp2_with (first
  | (go_at_call 238; refine HR.out.mono ?_; rintro e w1 ⟨rfl, hd, ho⟩)
  | (go_at_call 133; refine (znx _).mono ?_; unfold thrown; rintro e w' ⟨rfl, rfl⟩))
 have hb1 : Below w1.heap.size w1 (w1.alloc (.cells #[.string zfr, zfw] 130)) := (Below.refl _ _).alloc (Nat.le_refl _) _
 have ho1 : Only (· = b) w w1 := ((Only.refl _ _).alloc _).trans ho
 exact ⟨rfl, w1.heap.size, rfl, Blk.new w1 _ _, ho1.size, (zs3 H'.out hd ho).below hb1, ho1.alloc _⟩
theorem zzr (v : Value) (xT : TypeId) (w : World) : (Instr.typeAssert (.iface 128 v) xT 128 true).run Tryz.prog w = .ok (.tuple #[v, .bool true]) w := by
 simp [Instr.typeAssert, run_underlying Tryz.underlying128]
theorem zry (f p : Nat) (s : ByteArray) (w : World) (hF : zbj w f zfr 8) (hg : Glob w) (he : Blk w p 31 #[.nilIface]) :
   Calls Tryz.prog 91 #[.iface 128 (.pointer (some ⟨f, 0, none⟩)), .string s, .pointer (some ⟨p, 0, none⟩)] w fun e w' => e = .returned (.tuple #[]) /\ ∃ f', zbj w' f' s 8 /\ w.heap.size <= f' /\ Blk w' p 31 #[zau f'] /\ Only (· = p) w w' := by
 have hbel : Below w.heap.size w (w.alloc (.cells #[.int .i64 8] 44)) := (Below.refl _ _).alloc (Nat.le_refl _) _
 have HA := zaa (zja f 8 zfr w.heap.size 8 (w.alloc (.cells #[.int .i64 8] 44)) (hF.below hbel hF.lt) (hg.alloc _) (Blk.new _ _ _))
 have HE := zaa he
 have ta := zzr
 have hpl := he.lt
 unfold zau at HA
 clear hF hg he hbel
 go_enter Tryz.func91, Tryz.ntmps91
 go_wp2_with (go_at_call 63; go_loud (
  refine HA.out.mono ?_; rintro e w1 ⟨rfl, ht1, ho1⟩
  have hp1 : Blk w1 p 31 #[.nilIface] := (HE.out.alloc _).only ho1 (by omega)
  have c1 := zab ht1 0 rfl
  have k1 := fun o => zai o (zab hp1 0 rfl)
  have k2 : ∀ o, (w1.alloc o).frozen? ⟨p, 0, none⟩ = false := fun o => (hp1.alloc o).frozen 0
  have HP1 := zaa hp1
  have HO1 := zaa ho1
  clear ht1 ho1 hp1))
 go_end0
 have hz1 : w.heap.size < w1.heap.size := by have := HO1.out.size; rw [World.size_alloc] at this; omega
 refine ⟨rfl, w1.heap.size, (Blk.new w1 _ _).far (p := ⟨p, 0, none⟩) (show ¬ w1.heap.size = p by omega) _, by omega, (HP1.out.alloc _).set_ 0 _, ?_⟩
 have o1 : Only (· = p) w w1 := ((Only.refl (· = p) w).alloc _).trans' (HO1.out.mono fun x _ (e : x = w.heap.size) => e) fun x hx e => by omega
 exact (o1.alloc _).setCell (p := ⟨p, 0, none⟩) (.inl rfl) _
set_option maxHeartbeats 1600000 in
theorem zrz (n₀ q6 qd f : Nat) (v0 : Value) (D : List Nat) (s : Nat -> NdS) (w : World) (hF : zbj w f zfr 8) (hgl : Glob w) (he : Blk w q6 31 #[.nilIface]) (hv : Blk w qd 156 #[v0]) (ho : w.ownsRow n₀ 86 1 v0 D.length (D.map P)) (hnd : D.Nodup) (hlen : D.length <= 1000) (hs : ∀ j (hj : j < D.length), zb3 w D[j] (s j)) (hlow : ∀ y ∈ D, y < n₀) (hq : n₀ <= q6 /\ n₀ <= qd) :
   CallsD Tryz.prog 90 #[.pointer (some ⟨q6, 0, none⟩), .pointer (some ⟨qd, 0, none⟩)] (.panicking [{ v := .iface 128 (.pointer (some ⟨f, 0, none⟩)), recovered := false }]) w fun e u' w' => u' = .panicking [{ v := .iface 128 (.pointer (some ⟨f, 0, none⟩)), recovered := true }] /\ (e = .returned (.tuple #[]) /\ ∃ f', zbj w' f' zgp 8 /\ w.heap.size <= f' /\ Blk w' q6 31 #[zau f'] /\ (∀ j (hj : j < D.length), zb3 w' D[j] { s j with dirty := true }) /\ Only (fun y => y = q6 \/ y ∈ D) w w') := by
 refine callsD_of_wpS Tryz.func90 rfl fun c₀ cs hu => ?_
 apply wpS_seq
 apply wpS_region
 simp [wpOpsS, go_sem, recoverD, hu, Tryz.ntmps90]
 refine (zry f q6 zgp w hF hgl he).mono ?_
 rintro e w1 ⟨rfl, f', hF1, hz1, he1, ho1⟩
 have hv1 : Blk w1 qd 156 #[v0] := hv.only ho1 (fun e => Blk.ne_ hv he (by decide) e)
 have hown1 : w1.ownsRow n₀ 86 1 v0 D.length (D.map P) := za0 ho ho1 fun y cs hy e => Blk.ne_ hy he (by decide) e
 have hs1 : ∀ j (hj : j < D.length), zb3 w1 D[j] (s j) := fun j hj => Blk.only (hs j hj) ho1 (fun e => Blk.ne_ (hs j hj) he (by decide) e)
 obtain ⟨A, c, rfl, hform⟩ := zan hown1
 have c0 : w1.cell? ⟨qd, 0, none⟩ = some (.slice A D.length c) := zab hv1 0 rfl
 have HF1 := zaa hF1
 have HO1 := zaa ho1
 have HZ1 := zaa hz1
 have hq6l := he.lt
 clear hF hgl he hv ho hs hF1 ho1 hz1 hv1 hown1
 dsimp only [Exit.thenS]
 refine wpS_of_wp ?_
 have hc : D.length <= c /\ c <= maxLen := ⟨hform.1, hform.2.1⟩
 obtain ⟨hc1, hc2⟩ := hc
 unfold maxLen at hc2
 have hrow : ∀ wr, Only (· ∈ D) w1 wr -> ∀ k (hk : k < D.length), ∃ g, A = some ⟨g, 0, none⟩ /\ wr.cell? ⟨g, k, none⟩ = some (.pointer (some ⟨D[k], 0, none⟩)) := by
  intro wr hr k hk
  cases hA : A with
  | none =>
    have := (hform.2.2.2 (by rw [hA]; rfl)).1
    omega
  | some a =>
    obtain ⟨e1, e2, e3, cur, e4, e5, e6⟩ := hform.2.2.1 a.block (by rw [hA]; rfl)
    rw [hA] at e3
    refine ⟨a.block, e3, ?_⟩
    have hnot : ¬ a.block ∈ D := fun hm => by have := hlow _ hm; omega
    rw [(hr.cell (p := ⟨a.block, k, none⟩) e2 hnot), e4.cell]
    have := congrArg (fun l => l[k]?) e6
    simp only [Nat.mul_one, List.getElem?_take, if_pos hk, List.getElem?_map, List.getElem?_eq_getElem hk, Option.map_some] at this
    rw [<- Array.getElem?_toList]
    exact this
 have hS := zaa hs1
 have HROW := zaa hrow
 have HE := zaa he1
 have hq6 : q6 ∉ D := fun hm => by have := hlow _ hm; omega
 have HQ6 := zaa hq6
 have HND := zaa hnd
 clear hs1 hrow he1 hform hnd
 simp only [Array.replicate_succ, Array.replicate_zero, List.push_toArray, List.append_toArray, List.nil_append, List.cons_append, List.setIfInBounds_toArray, List.set_cons_zero, List.set_cons_succ]
 go_wp2
 go_loopw [8] (fun v wr => z1h w1 D s (fun j => { s j with dirty := true }) v wr) (fun v _ => D.length - (intOf v).toNat)
 case atStart => exact ⟨0, Nat.zero_le _, rfl, Half.zero hS.out, Only.refl _ _⟩
 case round =>
  obtain ⟨k, hk, rfl, hh, hon⟩ := hrel
  by_cases hlt : k < D.length
  . obtain ⟨g, rfl, hcell⟩ := HROW.out wr hon k hlt
    have hnk : zb3 wr D[k] (s k) := by have := hh k hlt; rwa [if_neg (Nat.lt_irrefl _)] at this
    obtain ⟨y, hy⟩ : ∃ y, y = D[k] := ⟨_, rfl⟩
    rw [<- hy] at hcell hnk
    have e0 : wr.cell? ⟨q6, 0, none⟩ = some (zau f') := (hon.cell (p := ⟨q6, 0, none⟩) HE.out.lt HQ6.out).trans (zab HE.out 0 rfl)
    have e1 : wr.cell? ⟨y, 2, none⟩ = some (.bool (s k).dirty) := zab hnk 2 rfl
    have e2 : wr.frozen? ⟨y, 2, none⟩ = false := Blk.frozen hnk 2
    have k0 : (0 : Int) <= (k : Int) := by omega
    have k1 : (k : Int) < (D.length : Int) := by omega
    unfold zau at e0
    have HH := zaa hh
    have HON := zaa hon
    have HNK := zaa hnk
    have HY := zaa hy
    clear hh hon hnk hy
    go_wp2
    go_roundw
    case rel =>
     have hO : Only (· = D[k]) wr (wr.setCell ⟨y, 2, none⟩ (.bool true)) := by rw [<- HY.out]; exact Only.set1 _ _ _ _
     refine ⟨k + 1, by omega, by go_num, HH.out.step HND.out hlt hO ?_, HON.out.trans (hO.mono fun x _ hx => by rw [hx]; exact List.getElem_mem _)⟩
     rw [<- HY.out]
     exact HNK.out.set_ 2 (.bool true)
    case measure => simp [intOf]; omega
  . have k1 : ¬ (k : Int) < (D.length : Int) := by omega
    obtain rfl : k = D.length := by omega
    have HH := zaa hh.all
    have HON := zaa hon
    clear hh hon
    go_wp2
    have hf : f' ∉ D := fun hm => by have := hlow _ hm; have := HZ1.out; omega
    exact ⟨rfl, _, rfl, .tuple #[], by simp [results, Tryz.results90], rfl, rfl, f', Blk.only HF1.out HON.out hf, HZ1.out, HE.out.only HON.out HQ6.out, HH.out, (HO1.out.mono fun x _ e => .inl e).trans (HON.out.mono fun x _ e => .inr e)⟩
end Go.Proofs.YtemondlgcmpbbaaGreatDoor
