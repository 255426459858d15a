/- TreeK TreeL TreeM Us: merged. -/
import Derived.Test.YtemondlgcmpbbaaGreatDoorMP09
import Derived.Test.YtemondlgcmpbbaaGreatDoorMP18
namespace Go.Proofs.YtemondlgcmpbbaaGreatDoor
set_option maxRecDepth 100000
def KS (V : Str -> Prop) : (h : Nat) -> Tr h -> Prop
 | 0, n => ∀ e ∈ Nd.es n, V e.1
 | h + 1, n => ∀ e ∈ Nd.es n, V e.1 /\ KS V h e.2
def KL (V : Str -> Prop) (h : Nat) (es : List (Str × Tr h)) : Prop := ∀ e ∈ es, V e.1 /\ KS V h e.2
section
variable {V : Str -> Prop}
theorem KL.app {h : Nat} {a b : List (Str × Tr h)} (ha : KL V h a) (hb : KL V h b) : KL V h (a ++ b) := fun e he => (List.mem_append.1 he).elim (ha e) (hb e)
theorem zmb {K : Type} (h0 : V noKey) {l : List (Str × K)} (hl : ∀ e ∈ l, V e.1) : V (zat l) := by
 cases l with
 | nil => exact h0
 | cons a l => exact hl a (List.mem_cons_self ..)
theorem zp1 (h0 : V noKey) : ∀ (h : Nat) (c : Tr h), KS V h c -> KS V h (Tr.split h c).1 /\ V (Tr.split h c).2.1 /\ KS V h (Tr.split h c).2.2
 | 0, _, hc => ⟨fun e he => hc e (List.mem_of_mem_take he), zmb h0 fun e he => hc e (List.mem_of_mem_drop he), fun e he => hc e (List.mem_of_mem_drop he)⟩
 | _ + 1, _, hc => ⟨fun e he => hc e (List.mem_of_mem_take he), zmb h0 fun e he => (hc e (List.mem_of_mem_drop he)).1, fun e he => hc e (List.mem_of_mem_drop he)⟩
theorem zsw : ∀ (h : Nat) (k2 : Str) (c d : Tr h), V k2 -> KS V h c -> KS V h d -> KS V h (Tr.join h c k2 d)
 | 0, _, c, d, _, hc, hd => fun e he => (List.mem_append.1 (show e ∈ Nd.es c ++ Nd.es d from he)).elim (hc e) (hd e)
 | h + 1, k2, c, d, hk, hc, hd => fun e he => by
   rcases List.mem_append.1 (show e ∈ Nd.es c ++ rekey k2 (Nd.es d) from he) with he | he
   . exact hc e he
   . cases hx : Nd.es d with
     | nil => rw [hx] at he; cases he
     | cons a X =>
       rw [hx] at he
       rcases List.mem_cons.1 he with rfl | he
       . exact ⟨hk, (hd a (by rw [hx]; simp)).2⟩
       . exact hd e (by rw [hx]; simp [he])
theorem zmc (h0 : V noKey) {h : Nat} {k : Str} {c : Tr h} (hk : V k) (hc : KS V h c) : KL V h (fix h k c) := by
 obtain ⟨s1, s2, s3⟩ := zp1 h0 h c hc
 unfold fix
 split
 . intro e he
   simp only [List.mem_cons, List.not_mem_nil, or_false] at he
   rcases he with rfl | rfl
   . exact ⟨hk, s1⟩
   . exact ⟨s2, s3⟩
 . intro e he
   rw [List.mem_singleton.1 he]
   exact ⟨hk, hc⟩
theorem zzh (h0 : V noKey) {h : Nat} {A : List (Str × Tr h)} {k : Str} {c : Tr h} {B : List (Str × Tr h)} (hA : KL V h A) (hB : KL V h B) (hk : V k) (hc : KS V h c) : KL V h (zax h A k c B) := by
 unfold zax
 cases Tr.thin h c with
 | false => exact (hA.app (zmc h0 hk hc)).app hB
 | true =>
   simp only [if_true]
   cases B with
   | cons d B =>
     obtain ⟨d1, d2⟩ := hB d (by simp)
     exact (hA.app (zmc h0 hk (zsw h d.1 c d.2 d1 hc d2))).app fun e he => hB e (by simp [he])
   | nil =>
     cases hl : A.getLast? with
     | none => exact zmc h0 hk hc
     | some b =>
       have hAe := zcq A b hl
       obtain ⟨b1, b2⟩ := hA b (by rw [hAe]; simp)
       exact KL.app (fun e he => hA e (by rw [hAe]; simp [he])) (zmc h0 b1 (zsw h k b.2 c hk b2 hc))
theorem zp2 (h0 : V noKey) {h : Nat} {key : Str} {X : List (Str × Tr h)} {f : Tr h -> Tr h} (hX : KL V h X) (hf : ∀ c, KS V h c -> KS V h (f c)) : KL V h (zah h key X f) := by
 unfold zah
 cases hd : X.drop (below key X) with
 | nil => exact hX
 | cons e B =>
   have hm : ∀ x ∈ e :: B, x ∈ X := fun x hx => List.mem_of_mem_drop (i := below key X) (by rw [hd]; exact hx)
   exact zzh h0 (fun x hx => hX x (List.mem_of_mem_take hx)) (fun x hx => hX x (hm x (by simp [hx]))) (hX e (hm e (by simp))).1 (hf e.2 (hX e (hm e (by simp))).2)
theorem zzi {key v : Str} {es : List (Str × Str)} (hk : V key) (hn : ∀ e ∈ es, V e.1) : ∀ e ∈ zbq key v es, V e.1 := by
 intro e he
 rcases List.mem_append.1 he with he | he
 . exact hn e (List.mem_of_mem_take he)
 . rcases List.mem_cons.1 he with rfl | he
   . exact hk
   . exact hn e (List.mem_of_mem_drop he)
theorem zxq {key : Str} {es : List (Str × Str)} (hn : ∀ e ∈ es, V e.1) : ∀ e ∈ zbu key es, V e.1 := by
 intro e he
 rcases List.mem_append.1 he with he | he
 . exact hn e (List.mem_of_mem_take he)
 . exact hn e (List.mem_of_mem_drop he)
theorem zv1 (h0 : V noKey) : ∀ (h : Nat) (n : Tr h) (key v : Str), V key -> KS V h n -> KS V h (Tr.put h n key v)
 | 0, _, _, _, hk, hn => zzi hk hn
 | h + 1, _, key, v, hk, hn => zp2 h0 hn fun c hc => zv1 h0 h c key v hk hc
theorem zm4 (h0 : V noKey) : ∀ (h : Nat) (n : Tr h) (key : Str), KS V h n -> KS V h (Tr.drop h n key)
 | 0, _, _, hn => zxq hn
 | h + 1, _, key, hn => zp2 h0 hn fun c hc => zm4 h0 h c key hc
structure TK (V : Str -> Prop) (t : Tree) : Prop where
 some_ : ∀ h n, t.root = some ⟨h, n⟩ -> KS V h n
theorem TK.empty : TK V ⟨none, 0⟩ := ⟨fun _ _ h => by cases h⟩
theorem TK.put (h0 : V noKey) {t : Tree} (ht : TK V t) {key v : Str} (hk : V key) : TK V (t.put key v) := by
 have hg : ∀ (h : Nat) (n : Tr h), KS V h n -> KS V (za5 h n).1 (za5 h n).2 := by
  intro h n hn
  unfold za5
  obtain ⟨s1, s2, s3⟩ := zp1 h0 h n hn
  by_cases hf : Tr.full h n = true
  . rw [if_pos hf]
    intro e he
    have he : e ∈ [(ByteArray.empty, (Tr.split h n).1), ((Tr.split h n).2.1, (Tr.split h n).2.2)] := he
    simp only [List.mem_cons, List.not_mem_nil, or_false] at he
    rcases he with rfl | rfl
    . exact ⟨h0, s1⟩
    . exact ⟨s2, s3⟩
  . rw [if_neg hf]
    exact hn
 obtain ⟨h, n, h1, h2, _⟩ := zi0 t key v
 refine ⟨fun h' n' hr => ?_⟩
 rw [h2] at hr
 have hn : KS V h n := by
  rcases h1 with h1 | ⟨_, h1⟩
  . exact ht.some_ h n h1
  . cases h1; intro e he; cases he
 have := hg h _ (zv1 h0 h n key v hk hn)
 rw [Option.some.inj hr] at this
 exact this
theorem znr : ∀ (h : Nat) (n : Tr h), KS V h n -> KS V (shrink h n).1 (shrink h n).2
 | 0, _, hn => hn
 | h + 1, n, hn => by
   cases hx : Nd.es n with
   | nil =>
     have : shrink (h + 1) n = ⟨h + 1, n⟩ := by unfold shrink; rw [hx]
     rw [this]; exact hn
   | cons e X =>
     cases X with
     | nil =>
       rw [zeb hx]
       exact znr h e.2 (hn e (by rw [hx]; simp)).2
     | cons d X =>
       rw [ze6 hx]
       exact hn
theorem TK.delete (h0 : V noKey) {t : Tree} (ht : TK V t) (key : Str) : TK V (t.delete key) := by
 unfold Tree.delete
 cases hr : t.root with
 | none => exact ht
 | some x =>
   obtain ⟨h, n⟩ := x
   simp only
   split
   . refine ⟨fun h' n' hr' => ?_⟩
     simp only at hr'
     split at hr'
     . cases hr'
     . have := znr h _ (zm4 h0 h n key (ht.some_ h n hr))
       rw [Option.some.inj hr'] at this
       exact this
   . exact ht
end
/-! ### all keys have eight bytes -/
def V8 (k : Str) : Prop := k.size = 8 \/ k = noKey
theorem zk7 {α : Type} : ∀ (l L : List α), l.Nodup -> (∀ x ∈ l, x ∈ L) -> l.length <= L.length
 | [], _, _, _ => Nat.zero_le _
 | a :: l, L, hn, hs => by
   obtain ⟨A, B, rfl⟩ := List.append_of_mem (hs a (List.mem_cons_self ..))
   obtain ⟨h1, h2⟩ := List.nodup_cons.1 hn
   have := zk7 l (A ++ B) h2 fun x hx => by
    rcases List.mem_append.1 (hs x (List.mem_cons_of_mem _ hx)) with h | h
    . exact List.mem_append_left _ h
    . rcases List.mem_cons.1 h with h | h
      . subst h; exact absurd hx h1
      . exact List.mem_append_right _ h
   simp only [List.length_append, List.length_cons] at *
   omega
theorem zp3 {V : Str -> Prop} : ∀ {h : Nat} {n : Tr h}, KS V h n -> ∀ e ∈ Tr.pairs h n, V e.1
 | 0, _, hn => hn
 | h + 1, n, hn => fun e he => by
   obtain ⟨x, hx, he⟩ := List.mem_flatMap.1 (show e ∈ (Nd.es n).flatMap fun e => Tr.pairs h e.2 from he)
   exact zp3 (hn x hx).2 e he
theorem TK.pairs {V : Str -> Prop} {t : Tree} (ht : TK V t) : ∀ e ∈ t.pairs, V e.1 := by
 unfold Tree.pairs
 cases hr : t.root with
 | none => intro e he; cases he
 | some x => exact zp3 (ht.some_ x.1 x.2 hr)
theorem TK.mono {V V' : Str -> Prop} (hV : ∀ k, V k -> V' k) {t : Tree} (ht : TK V t) : TK V' t := by
 have : ∀ (h : Nat) (n : Tr h), KS V h n -> KS V' h n := by
  intro h
  induction h with
  | zero => intro n hn e he; exact hV _ (hn e he)
  | succ h ih => intro n hn e he; exact ⟨hV _ (hn e he).1, ih _ (hn e he).2⟩
 exact ⟨fun h n hr => this h n (ht.some_ h n hr)⟩
theorem zuf {l : List (Str × Str)} (h : zfk l) : (l.map (·.1)).Nodup := by
 induction l with
 | nil => exact List.nodup_nil
 | cons a l ih =>
   obtain ⟨h1, h2⟩ := List.pairwise_cons.1 h
   rw [List.map_cons, List.nodup_cons]
   refine ⟨fun hm => ?_, ih h2⟩
   obtain ⟨b, hb, e⟩ := List.mem_map.1 hm
   have := h1 b hb
   rw [e, zbh] at this
   cases this
theorem zm5 {t : Tree} (hw : TW t) {L : List Str} (ht : TK (fun k => k ∈ L \/ k = noKey) t) : t.keys <= L.length := by
 rw [hw.keys_]
 have := zk7 (t.pairs.map (·.1)) L (zuf hw.leaf.1) fun x hx => by
  obtain ⟨e, he, rfl⟩ := List.mem_map.1 hx
  rcases ht.pairs e he with h | h
  . exact h
  . obtain ⟨_, _, hk, _⟩ := hw.leaf.2 e he
    rw [h] at hk
    unfold zb1 noKey at hk
    have : ByteArray.empty.size = 0 := rfl
    omega
 rw [List.length_map] at this
 exact this
/-! ### which blocks are free -/
def fr (L : List Nat) (n a : Nat) : List Nat := (List.range' a (n - a)).filter fun i => !decide (i ∈ L)
theorem zp4 {L : List Nat} {n a : Nat} (h : n <= a) : fr L n a = [] := by unfold fr; rw [show n - a = 0 by omega]; rfl
theorem zzj {L : List Nat} {n a : Nat} (h : a ∈ L) : fr L n a = fr L n (a + 1) := by
 by_cases hn : a < n
 . unfold fr
   rw [show n - a = (n - (a + 1)) + 1 by omega, List.range'_succ, List.filter_cons]
   simp [h]
 . rw [zp4 (by omega), zp4 (by omega)]
theorem zzk {L : List Nat} {n a : Nat} (hn : a < n) (h : a ∉ L) : fr L n a = a :: fr L n (a + 1) := by
 unfold fr
 rw [show n - a = (n - (a + 1)) + 1 by omega, List.range'_succ, List.filter_cons]
 simp [h]
theorem zh2 {L : List Nat} {n a x : Nat} (h : x ∈ fr L n a) : a <= x /\ x < n /\ x ∉ L := by
 unfold fr at h
 rw [List.mem_filter, List.mem_range'_1] at h
 obtain ⟨h1, h2⟩ := h
 exact ⟨h1.1, by omega, by simpa using h2⟩
theorem zp5 (L : List Nat) (n a : Nat) : (fr L n a).Nodup := List.Nodup.sublist List.filter_sublist (List.nodup_range' (s := a) (n := n - a))
theorem zmd {α : Type} (p : α -> Bool) : ∀ l : List α, l.length = (l.filter p).length + (l.filter fun x => !p x).length
 | [] => rfl
 | a :: l => by
   have := zmd p l
   cases h : p a <;> simp [h] <;> omega
theorem z1c (L : List Nat) (n a : Nat) : n <= a + L.length + (fr L n a).length := by
 have h1 := zmd (fun i => decide (i ∈ L)) (List.range' a (n - a))
 rw [List.length_range'] at h1
 have h2 := zk7 ((List.range' a (n - a)).filter fun i => decide (i ∈ L)) L (List.Nodup.sublist List.filter_sublist (List.nodup_range' (s := a) (n := n - a))) fun x hx => by
  have := (List.mem_filter.1 hx).2
  simpa using this
 unfold fr
 omega
def blks : (h : Nat) -> Tr h -> List Nat
 | 0, n => [Nd.blk n]
 | h + 1, n => ((Nd.es n).flatMap fun e => blks h e.2) ++ [Nd.blk n]
def cblks : (h : Nat) -> Tr h -> List Nat
 | 0, n => if Nd.dirty n then [] else [Nd.blk n]
 | h + 1, n => ((Nd.es n).flatMap fun e => cblks h e.2) ++ if Nd.dirty n then [] else [Nd.blk n]
theorem blks_len : ∀ (h : Nat) (n : Tr h), (blks h n).length = nodes h n
 | 0, _ => rfl
 | h + 1, n => by
   have : ∀ l : List (Str × Tr h), (l.flatMap fun e => blks h e.2).length = (l.map fun e => nodes h e.2).sum := by
    intro l
    induction l with
    | nil => rfl
    | cons a l ih => rw [List.flatMap_cons, List.length_append, ih, blks_len h a.2]; rfl
   show (_ ++ [_]).length = 1 + _
   rw [List.length_append, this]
   exact Nat.add_comm _ _
theorem cblks_len : ∀ (h : Nat) (n : Tr h), (cblks h n).length + zae h n = nodes h n
 | 0, n => by unfold cblks zae nodes; split <;> rfl
 | h + 1, n => by
   have : ∀ l : List (Str × Tr h), (l.flatMap fun e => cblks h e.2).length + (l.map fun e => zae h e.2).sum = (l.map fun e => nodes h e.2).sum := by
    intro l
    induction l with
    | nil => rfl
    | cons a l ih => have := cblks_len h a.2; simp only [List.flatMap_cons, List.length_append, List.map_cons, List.sum_cons] at *; omega
   have h1 := this (Nd.es n)
   show (_ ++ if Nd.dirty n then [] else [_]).length + ((if Nd.dirty n then 1 else 0) + _) = 1 + _
   rw [List.length_append]
   split <;> simp only [List.length_cons, List.length_nil] <;> omega
def ins (L : List Nat) (k : Nat) : List Nat := if k ∈ L then L else L ++ [k]
theorem zm6 {L : List Nat} {k x : Nat} : x ∈ ins L k ↔ x ∈ L \/ x = k := by
 unfold ins
 split
 . rename_i h
   exact ⟨.inl, fun h' => h'.elim id fun e => e ▸ h⟩
 . simp
theorem zzl (L : List Nat) (k : Nat) : (ins L k).length <= L.length + 1 := by unfold ins; split <;> simp
theorem zk8 : ∀ (l L : List Nat), (l.foldl ins L).length <= L.length + l.length
 | [], _ => Nat.le_refl _
 | a :: l, L => by have := zk8 l (ins L a); have := zzl L a; simp only [List.foldl_cons, List.length_cons]; omega
theorem zg0 {x : Nat} : ∀ (l L : List Nat), x ∈ l.foldl ins L ↔ x ∈ L \/ x ∈ l
 | [], _ => by simp
 | a :: l, L => by rw [List.foldl_cons, zg0 l (ins L a), zm6, List.mem_cons]; constructor <;> (intro h; simp only [or_assoc] at *; exact h)
def Tree.blks (t : Tree) : List Nat := match t.root with | none => [] | some r => Proofs.YtemondlgcmpbbaaGreatDoor.blks r.1 r.2
def Tree.cblks (t : Tree) : List Nat := match t.root with | none => [] | some r => Proofs.YtemondlgcmpbbaaGreatDoor.cblks r.1 r.2
theorem Tree.blks_len (t : Tree) : t.blks.length = zd3 t := by
 unfold Tree.blks zd3
 cases t.root with
 | none => rfl
 | some r => exact Proofs.YtemondlgcmpbbaaGreatDoor.blks_len r.1 r.2
theorem Tree.cblks_len (t : Tree) : t.cblks.length + zar t = zd3 t := by
 unfold Tree.cblks zd3 zar
 cases t.root with
 | none => rfl
 | some r => exact Proofs.YtemondlgcmpbbaaGreatDoor.cblks_len r.1 r.2
end Go.Proofs.YtemondlgcmpbbaaGreatDoor
namespace Go.Proofs.YtemondlgcmpbbaaGreatDoor
open Go.RowKit
set_option maxRecDepth 100000
def UsedAt (w : World) (u : Nat) (L : List Nat) : Prop := ∃ es clk, w.heap[u]? = some (.map es clk) /\ es.toList.map (fun e => (e.key, e.val)) = L.map fun k => (Value.int .i64 (k : Nat), Value.int .i64 1)
theorem UsedAt.lt {w : World} {u : Nat} {L : List Nat} (h : UsedAt w u L) : u < w.heap.size := by
 obtain ⟨es, clk, h, _⟩ := h
 exact (Array.getElem?_eq_some_iff.1 h).1
theorem UsedAt.only {w w' : World} {u : Nat} {L : List Nat} {fp : Nat -> Prop} (h : UsedAt w u L) (ho : Only fp w w') (hf : ¬ fp u) : UsedAt w' u L := by
 have hl := h.lt
 obtain ⟨es, clk, h, hk⟩ := h
 exact ⟨es, clk, (ho.block u hl hf).trans h, hk⟩
theorem UsedAt.below {w w' : World} {u : Nat} {L : List Nat} (h : UsedAt w u L) (hb : Below w.heap.size w w') : UsedAt w' u L := h.only (fp := fun _ => False) (Only.of_below hb) id
theorem UsedAt.ne_blk {w : World} {u g : Nat} {L : List Nat} {t : TypeId} {cs : Array Value} (h : UsedAt w u L) (hb : Blk w g t cs) : u ≠ g := by
 rintro rfl
 obtain ⟨es, clk, h, _⟩ := h
 unfold Blk at hb
 rw [h] at hb
 cases hb
theorem UsedAt.new (w : World) : UsedAt (w.alloc (.map #[] 0)) w.heap.size [] := ⟨#[], 0, heap_alloc_new w _, rfl⟩
theorem zp6 (k : Nat) (kk : IntKind) : ∀ (es : List MapEntry) (L : List Nat) (i : Nat), es.map (fun e => (e.key, e.val)) = L.map (fun k => (Value.int .i64 (k : Nat), Value.int .i64 1)) ->
   Instr.findNow (.int kk) (.int .i64 (k : Nat)) es i = some (if k ∈ L then some (i + L.idxOf k, .int .i64 1) else none)
 | [], [], i, _ => rfl
 | [], _ :: _, i, h => by simp at h
 | _ :: _, [], i, h => by simp at h
 | e :: es, x :: L, i, h => by
   simp only [List.map_cons, List.cons.injEq, Prod.mk.injEq] at h
   have ih := zp6 k kk es L (i + 1) h.2
   have hs : Instr.sameNow (.int kk) (.int .i64 (k : Nat)) e.key = some ((k : Int) == (x : Int)) := by rw [h.1.1]; rfl
   by_cases he : k = x
   . subst he
     unfold Instr.findNow
     rw [hs]
     simp [h.1.2]
   . have : ((k : Int) == (x : Int)) = false := by rw [beq_eq_false_iff_ne]; exact fun h => he (Int.ofNat_inj.1 h)
     unfold Instr.findNow
     rw [hs, this]
     simp only [ih, List.mem_cons, he, false_or]
     have hx : ¬ x = k := fun h => he h.symm
     congr 1
     split
     . rw [List.idxOf_cons]
       have : (x == k) = false := by simpa using hx
       rw [this]
       simp only [cond_false]
       congr 2
       omega
     . rfl
section
variable {w : World} {u : Nat} {L : List Nat}
theorem zns (es : List MapEntry) (k : Nat) (he : es.map (fun e => (e.key, e.val)) = L.map (fun k => (Value.int .i64 (k : Nat), Value.int .i64 1))) (w : World) :
   (Instr.findKey 3 (.int .i64 (k : Nat)) es).run Tryz.prog w = .ok (if k ∈ L then some (L.idxOf k, .int .i64 1) else none) w := by
 have := zp6 k .i64 es L 0 he
 simp [Instr.findKey, run_underlying Tryz.underlying3, this]
theorem zv2 (b : Bool) (n : Nat) (k : Int) : (Instr.checkKey b (n + 1) 3 (.int .i64 k)).run Tryz.prog w = .ok () w := by
 simp [Instr.checkKey, run_underlying Tryz.underlying3]
theorem zgg (b : Bool) (k : Int) : (Instr.checkKey b 10000 3 (.int .i64 k)).run Tryz.prog w = .ok () w := zv2 b 9999 k
theorem zg1 (h : UsedAt w u L) (k : Nat) :
   ∃ w', (Instr.mapUpdate 155 (.map (some u)) (.int .i64 (k : Nat)) (.int .i64 1)).run Tryz.prog w = .ok () w' /\ UsedAt w' u (ins L k) /\ Only (· = u) w w' /\ w'.heap.size = w.heap.size := by
 obtain ⟨es, clk, hb, he⟩ := h
 have hf := zns (L := L) es.toList k he w
 have hkt : (Instr.keyThatStays (.int .i64 (k : Nat)) (.int .i64 (k : Nat))).run Tryz.prog w = .ok (.int .i64 (k : Nat)) w := by
  simp [Instr.keyThatStays, Instr.sameBits]
 have hmd : ∀ o : Obj, Only (· = u) w (ChangeMaps.setBlock w u o) := fun o => ⟨rfl, rfl, rfl, by simp [ChangeMaps.setBlock], fun i _ hi => ChangeMaps.heap_setBlock_other hb _ hi⟩
 by_cases hm : k ∈ L
 . rw [if_pos hm] at hf
   have hi : L.idxOf k < L.length := List.idxOf_lt_length_iff.2 hm
   have hLk : L[L.idxOf k]'hi = k := List.getElem_idxOf hi
   obtain ⟨i, hI⟩ : ∃ i, i = L.idxOf k := ⟨_, rfl⟩
   have hLi : L[i]? = some k := by rw [hI, List.getElem?_eq_getElem hi, hLk]
   rw [<- hI] at hf
   have hlen : es.size = L.length := by have := congrArg List.length he; simpa using this
   have hil : i < es.size := by omega
   have hat : ∀ j : Nat, (es[j]?).map (fun e => (e.key, e.val)) = (L[j]?).map fun k => (Value.int .i64 (k : Nat), Value.int .i64 1) := fun j => by
    have := congrArg (fun l => l[j]?) he
    simpa using this
   have hik : es[i].key = .int .i64 (k : Nat) := by
    have := hat i
    rw [hLi, Array.getElem?_eq_getElem hil] at this
    simp at this
    exact this.1
   refine ⟨ChangeMaps.setBlock w u (.map (es.modify i fun e => { e with key := .int .i64 (k : Nat), val := .int .i64 1 }) clk), ?_, ⟨_, _, ChangeMaps.heap_setBlock_same hb _, ?_⟩, hmd _, by simp [ChangeMaps.setBlock]⟩
   . simp [Instr.mapUpdate, run_underlying Tryz.underlying155, MapKept.run_getObj_map hb, zgg, hf, hil, hik, hkt, MapKept.run_setObj_map _ hb, Result.andThen, ChangeMaps.setBlock]
   . have e : ins L k = L := by unfold ins; rw [if_pos hm]
     rw [e]
     apply List.ext_getElem?
     intro j
     have := hat j
     simp only [List.getElem?_map, Array.getElem?_toList, Array.getElem?_modify]
     by_cases hj : i = j
     . subst hj
       rw [hLi, Array.getElem?_eq_getElem hil]
       simp
     . simp only [hj, if_false]
       exact this
 . rw [if_neg hm] at hf
   refine ⟨ChangeMaps.setBlock w u (.map (es.push { key := .int .i64 (k : Nat), val := .int .i64 1, born := clk }) (clk + 1)), ?_, ⟨_, _, ChangeMaps.heap_setBlock_same hb _, ?_⟩, hmd _, by simp [ChangeMaps.setBlock]⟩
   . simp [Instr.mapUpdate, run_underlying Tryz.underlying155, MapKept.run_getObj_map hb, zgg, hf, MapKept.run_setObj_map _ hb, Result.andThen, ChangeMaps.setBlock]
   . have e : ins L k = L ++ [k] := by unfold ins; rw [if_neg hm]
     rw [e]
     simp [he]
theorem zhl (h : UsedAt w u L) (k : Nat) :
   (Instr.lookup 155 (.map (some u)) (.int .i64 (k : Nat)) false).run Tryz.prog w = .ok (.int .i64 (if k ∈ L then 1 else 0)) w := by
 obtain ⟨es, clk, hb, he⟩ := h
 have hf := zns (L := L) es.toList k he w
 have hz : (zeroValue 3).run Tryz.prog w = .ok (.int .i64 0) w := by kernel_rfl
 by_cases hm : k ∈ L
 . rw [if_pos hm] at hf
   simp [Instr.lookup, run_underlying Tryz.underlying155, MapKept.run_getObj_map hb, zgg, hf, Result.andThen, hm]
 . rw [if_neg hm] at hf
   simp [Instr.lookup, run_underlying Tryz.underlying155, MapKept.run_getObj_map hb, zgg, hf, hz, Result.andThen, hm]
end
end Go.Proofs.YtemondlgcmpbbaaGreatDoor
