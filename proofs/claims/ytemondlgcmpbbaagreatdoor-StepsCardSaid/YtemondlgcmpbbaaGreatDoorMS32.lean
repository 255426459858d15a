/- Walks: Txn.All over a tree. -/
import Derived.Test.YtemondlgcmpbbaaGreatDoorMS09
import Derived.Test.YtemondlgcmpbbaaGreatDoorMS31
import Derived.Test.YtemondlgcmpbbaaGreatDoorMS20
namespace Go.Proofs.YtemondlgcmpbbaaGreatDoor
open Go.RowKit Go.Shelf

attribute [local go_sem] Oper.semAt_some

theorem room_none {F : Fence} (hd : F.depth = none) (k : Nat) : F.room k := fun d h => by rw [hd] at h; cases h
theorem RoundIn.any {F : Fence} (hd : F.depth = none) {m m' : Nat} {P : Program} {l : Nat} {f : FuncId} {tmps : Array Value} {assign body : Code} {w : World} {R : Ending → World → Prop}
    (h : RoundIn F m P l f tmps assign body w R) : RoundIn F m' P l f tmps assign body w R := ⟨h.1, fun c cs _ => h.2 c cs (room_none hd _)⟩
theorem YieldAt.any {F : Fence} (hd : F.depth = none) {m : Nat} (m' : Nat) {P : Program} {l : Nat} {args : Array Value} {W : World} {R : Ending → World → Prop} (h : YieldAt F m P l args W R) : YieldAt F m' P l args W R := by
  obtain ⟨fn, tmps, assign, body, hy, hR⟩ := h
  exact ⟨fn, tmps, assign, body, hy, RoundIn.any hd hR⟩

set_option maxRecDepth 100000 in
set_option maxHeartbeats 1000000 in
theorem all11_any {m : Nat} (l b1 b2 : Nat) (x : Str × Str) (hi : Str) (W : World) (A B : World → Prop) (hlt : slt x.1 hi = true) (h1 : Blk W b1 9 #[.string hi]) (h2 : Blk W b2 226 #[.func (.yield l) #[] #[]])
    (hY : YieldAt Fence.wide m Tryz.prog l #[.agg #[.string x.1, .string x.2], .nilIface] (W.alloc (.cells #[.string x.1, .string x.2] 68)) fun e W' => (e = .returned (.bool true) ∧ A W') ∨ (e = .returned (.bool false) ∧ B W')) :
    Calls Tryz.prog 141 #[.agg #[.string x.1, .string x.2], .pointer (some ⟨b1, 0, none⟩), .pointer (some ⟨b2, 0, none⟩)] W fun e W' => (e = .returned (.bool true) ∧ A W') ∨ (e = .returned (.bool false) ∧ B W') := by
  have c1 := fun o => cellA o (cellOf h1 0 rfl)
  have c2 := fun o => cellA o (cellOf h2 0 rfl)
  have hb : Op.bytesLess x.1.toList hi.toList = true := hlt
  obtain ⟨fn, tmps, assign, body, hy, hR⟩ := YieldAt.any rfl 2 hY
  clear h1 h2 hY hlt
  refine (callsIn_wide (n := 3)).1 ?_
  refine callsIn_of_wp Tryz.func141 rfl trivial ?_ rfl
  simp only [Tryz.ntmps141, List.size_toArray, List.length_cons, List.length_nil, Nat.reduceAdd, Nat.reduceSub, Array.replicate_succ, Array.replicate_zero, List.push_toArray, List.append_toArray, List.nil_append, List.cons_append]
  gi_wp2
  refine hR.mono ?_
  rintro e W3 (⟨rfl, h⟩ | ⟨rfl, h⟩)
  · gi_wp2
    go_ret
    exact .inl ⟨rfl, h⟩
  · gi_wp2
    go_ret
    exact .inr ⟨rfl, h⟩

def KpY (n0 : Nat) (A B : World) : Prop := Below n0 A B ∧ ∀ y T cs, (T = 226 ∨ T = 9) → Blk A y T cs → Blk B y T cs
theorem KpY.trans {n0 : Nat} {A B C : World} (h : KpY n0 A B) (k : KpY n0 B C) : KpY n0 A C := ⟨h.1.trans k.1, fun y T cs hT hy => k.2 y T cs hT (h.2 y T cs hT hy)⟩
theorem KpY.put {n0 : Nat} {w : World} (hn : n0 ≤ w.heap.size) (W : World) (l : Nat) (o o' : Obj) (hl : w.heap.size ≤ l) (h : W.heap[l]? = some o) (h1 : o.isCells = false) (h2 : o.isWalk = false) : KpY n0 W (W.putObj l o') :=
  ⟨belowK_b hn W l o o' hl h h1 h2, fun y T cs _ hy => by
    have hne : y ≠ l := fun e => by
      subst e
      have hy' : W.heap[y]? = some (.cells cs T) := hy
      rw [h] at hy'
      cases hy'
      cases h1
    exact ((grownBy_putObj' W l o').block y (Blk.lt hy) (fun e => hne (by cases e; rfl))).trans hy⟩
def encP (x : Str × Str) : Array Value := #[.agg #[.string x.1, .string x.2], .nilIface]

set_option maxRecDepth 100000 in
set_option maxHeartbeats 1600000 in
theorem all1_tree (t x b0 b1 b2 k : Nat) (τ : TxS) (s : DbS) (T : Tree) (ds : List Nat) (n0 : Nat) (lo hi : ByteArray) (J Jx : List (Str × Str) → World → Prop) (W : World) (hT : TxAt W t τ) (hD : DbAt W x s) (hx : τ.db = x) (hk : τ.keys = T.keys) (hok : mayC s.poi τ.done false τ.write = 0)
    (hV : TreeV (fun z => z < n0) W T τ.root ds) (hR : TR T) (hp : T.pairs.length ≤ 150) (hlt : ∀ e ∈ T.pairs, slt e.1 hi = true)
    (h0 : Blk W b0 29 #[.pointer (some ⟨t, 0, none⟩)]) (h1 : Blk W b1 9 #[.string lo]) (h2 : Blk W b2 9 #[.string hi]) (hn0 : n0 ≤ W.heap.size)
    (hJ : AbidesFrom W.heap.size J) (_hJx : AbidesFrom W.heap.size Jx) (hJ0 : J [] W)
    (hY : ∀ pre x W1, J pre W1 → pre.length < 200 → YieldAt Fence.wide 2 Tryz.prog k (encP x) W1 fun e W' => (e = .returned (.bool true) ∧ J (pre ++ [x]) W' ∧ KpY n0 W1 W') ∨ (e = .returned (.bool false) ∧ Jx (pre ++ [x]) W')) :
    Calls Tryz.prog 140 #[.func (.yield k) #[] #[], .pointer (some ⟨b0, 0, none⟩), .pointer (some ⟨b1, 0, none⟩), .pointer (some ⟨b2, 0, none⟩)] W fun e W' => (∃ v, e = .returned v) ∧ ((∃ xs, xs = fromK T lo ∧ J xs W') ∨ ∃ pre, True ∧ Jx pre W') := by
  have hmf : ∀ (fn : Fn) (first cap : Array Value) (w : World), (Instr.makeFunc fn first cap).run Tryz.prog w = .ok (.func fn first cap) w := fun _ _ _ _ => rfl
  obtain ⟨q, hq⟩ := hV.ptr
  have hbA := (Below.refl W.heap.size W).alloc (Nat.le_refl _) (.cells #[.func (.yield k) #[] #[]] 226)
  have c0 := fun o => cellA o (cellOf h0 0 rfl)
  have HS := hide (see_any t x τ s ⟨#[97, 108, 108]⟩ _ (hT.below hbA hT.lt) (hD.below hbA hD.lt) hx q hq)
  rw [hok, hq, hk] at HS
  have hLp : ∀ (pre : List (Str × Str)) y, pre ++ [y] <+: fromK T lo → y ∈ T.pairs ∧ pre.length < 200 := fun pre y hpre => by
    have hmem : y ∈ fromK T lo := hpre.subset (by simp)
    have hlen := hpre.length_le
    have hl2 : (fromK T lo).length ≤ T.pairs.length := by unfold fromK; rw [List.length_drop]; omega
    refine ⟨?_, ?_⟩
    · unfold fromK at hmem; exact List.mem_of_mem_drop hmem
    · simp only [List.length_append, List.length_cons, List.length_nil] at hlen; omega
  have hJ' : ∀ pre V V', (J pre V ∧ Blk V b2 9 #[.string hi] ∧ Blk V W.heap.size 226 #[.func (.yield k) #[] #[]]) → Below V.heap.size V V' → (J pre V' ∧ Blk V' b2 9 #[.string hi] ∧ Blk V' W.heap.size 226 #[.func (.yield k) #[] #[]]) :=
    fun pre V V' h hb => ⟨hJ pre V V' none h.1 (Below.grown hb) (fun r e => by cases e), h.2.1.below hb h.2.1.lt, h.2.2.below hb h.2.2.lt⟩
  have HE := hide (fun (We : World) (hbe : Below W.heap.size W We) (hye : Blk We W.heap.size 226 #[.func (.yield k) #[] #[]]) => tEachS (n₀ := n0) (L := fromK T lo) (J := fun pre V => J pre V ∧ Blk V b2 9 #[.string hi] ∧ Blk V W.heap.size 226 #[.func (.yield k) #[] #[]]) (Jx := Jx) (q1 := b2) (q2 := W.heap.size) hJ'
    (fun pre y V hj hpre _ => by
      obtain ⟨hm, hl⟩ := hLp pre y hpre
      have hbp : Below V.heap.size V (V.alloc (.cells #[.string y.1, .string y.2] 68)) := (Below.refl _ _).alloc (Nat.le_refl _) _
      refine (all11_any k b2 W.heap.size y hi V (fun W' => J (pre ++ [y]) W' ∧ KpY n0 (V.alloc (.cells #[.string y.1, .string y.2] 68)) W') (Jx (pre ++ [y])) (hlt y hm) hj.2.1 hj.2.2 (hY pre y _ (hJ pre V _ none hj.1 (Below.grown hbp) (fun r e => by cases e)) hl)).mono ?_
      rintro e W' (⟨rfl, hj', hk'⟩ | ⟨rfl, hjx⟩)
      · exact .inl ⟨rfl, ⟨hj', hk'.2 _ _ _ (.inr rfl) (hj.2.1.below hbp hj.2.1.lt), hk'.2 _ _ _ (.inl rfl) (hj.2.2.below hbp hj.2.2.lt)⟩, (hbp.mono (by assumption)).trans hk'.1⟩
      · exact .inr ⟨rfl, hjx⟩)
    T (.pointer q) ds lo We (((hq ▸ hV : TreeV (fun z => z < n0) W T (.pointer q) ds)).below hbe (fun _ h => h)) hR hp (List.prefix_refl _) ⟨hJ [] W We none hJ0 (Below.grown hbe) (fun r e => by cases e), h2.below hbe h2.lt, hye⟩ (Nat.le_trans hn0 hbe.size))
  unfold treeV at HE
  have HD := hide (hD.below hbA hD.lt)
  have HB := hide hbA
  have H1 := hide (h1.below hbA h1.lt)
  have HYB := hide (Blk.new W 226 #[.func (.yield k) #[] #[]])
  clear hT hD h0 h1 hbA hJ _hJx hJ0 hY hV hR hp hlt hLp hJ'
  go_enter Tryz.func140, Tryz.ntmps140
  go_wp2_with (first
    | (go_at_call 66; go_loud (
       refine HS.out.mono ?_; rintro e w1 ⟨v, rfl, hv, hd1, ht1, ho1⟩
       have hb1 := ho1.back HD.out hd1
       obtain rfl : v = .nilIface := by
         rcases hv with h | h
         · exact h.2
         · exact absurd rfl h.1
       have e1 := fun o => cellA o (cellOf (H1.out.below hb1 H1.out.lt) 0 rfl)
       have HB1 := hide hb1
       clear hb1 hv hd1 ht1 ho1))
    | (go_at_call 105; go_loud (
       refine (HE.out _ ((HB.out.trans (HB1.out.mono (by simp))).alloc (Nat.le_trans (Nat.le_of_lt HYB.out.lt) (Nat.le_trans (Nat.le_of_eq rfl) HB1.out.size) |> fun h => by simpa using Nat.le_of_lt (Nat.lt_of_lt_of_le HYB.out.lt HB1.out.size)) _) ((HYB.out.below HB1.out HYB.out.lt).alloc _)).mono ?_; rintro e w3 ⟨rfl, h3⟩)))
  go_end0
  refine ⟨⟨_, rfl⟩, ?_⟩
  rcases h3 with ⟨h3, _⟩ | ⟨q', _, h3⟩
  · exact .inl ⟨_, rfl, h3.1⟩
  · exact .inr ⟨q', trivial, h3⟩
end Go.Proofs.YtemondlgcmpbbaaGreatDoor
