/- Base Fr Sl Ml: merged. -/
import Derived.Test.YtemondlgcmpbbaaGreatDoorProg
import Derived.WalkKit
import Derived.WalkLawsBesides
import Derived.WalkSpells
import Derived.Lib.Hide
import Derived.Below
import Derived.Laws.OwnMore
import Derived.Deep.AppendLies
import Derived.Deep.Draws
import Derived.Maps.AppendAt
import Derived.RegionTactic
import Derived.OwnWalk
import Derived.Deep.QuietTactic
import Derived.BigQuiet
import Derived.Deep.RegionHeld3
import Derived.Deep.RegionWith
import Derived.Deep.MidRow
import Derived.Laws.CopyOwn
import Derived.Laws.CopyRow
import Derived.Lib.AppendZerosOnto
import Derived.Deep.WholeRow
import Derived.Outline
import Derived.Deep.DeepMust
import Derived.Great.BuildSlice
import Derived.Deep.RegionHeld
namespace Go.Proofs.YtemondlgcmpbbaaGreatDoor
open Go.RowKit
set_option maxRecDepth 100000
theorem zg2 (a : Addr) (n : Nat) : (a.add n).block = a.block := by unfold Addr.add; split <;> rfl
theorem zom (a : Addr) (i j : Nat) : (a.add i).add j = a.add (i + j) := by
 unfold Addr.add
 by_cases hi : i = 0 <;> by_cases hj : j = 0 <;> simp [hi, hj, Nat.add_assoc]
def Reads (w : World) (B size : Nat) (A : Option Addr) (n : Nat) (xs : List Value) : Prop :=
 xs.length = n * size /\ (0 < n -> ∃ ad, A = some ad /\ ad.block < B /\ ∀ j u, xs[j]? = some u -> w.cell? (ad.add j) = some u)
section
variable {w w' : World} {B B' size n : Nat} {A : Option Addr} {xs : List Value}
theorem Reads.none_ : Reads w B size A 0 [] := ⟨by simp, fun h => absurd h (by omega)⟩
theorem Reads.at_ {k : Nat} (h : Reads w B 1 A n xs) (hk : k < n) : ∃ ad u, A = some ad /\ ad.block < B /\ xs[k]? = some u /\ w.cell? (ad.add k) = some u := by
 obtain ⟨ad, e, hb, hc⟩ := h.2 (by omega)
 have hl : k < xs.length := by have := h.1; omega
 exact ⟨ad, xs[k], e, hb, List.getElem?_eq_getElem hl, hc k _ (List.getElem?_eq_getElem hl)⟩
theorem Reads.keep (h : Reads w B size A n xs) (hk : ∀ p : Addr, p.block < B -> w'.cell? p = w.cell? p) : Reads w' B size A n xs :=
 ⟨h.1, fun hn => by
  obtain ⟨ad, e, hb, hc⟩ := h.2 hn
  exact ⟨ad, e, hb, fun j u hu => (hk _ (by rw [zg2]; exact hb)).trans (hc j u hu)⟩⟩
theorem Reads.more (h : Reads w B size A n xs) (hB : B <= B') : Reads w B' size A n xs :=
 ⟨h.1, fun hn => by
  obtain ⟨ad, e, hb, hc⟩ := h.2 hn
  exact ⟨ad, e, by omega, hc⟩⟩
theorem Reads.below (h : Reads w B size A n xs) (hb : Below B w w') : Reads w' B size A n xs := h.keep fun _ hp => hb.cell hp
theorem Reads.drew (h : Reads w B size A n xs) : Reads w.drew B size A n xs := h
theorem Reads.drewN (h : Reads w B size A n xs) (k : Nat) : Reads (w.drewN k) B size A n xs := h
theorem Reads.alloc (h : Reads w B size A n xs) (hB : B <= w.heap.size) (o : Obj) : Reads (w.alloc o) B size A n xs := h.keep fun p hp => World.cell?_alloc_lt w o p (by omega)
theorem Reads.setCell (h : Reads w B size A n xs) {p : Addr} (hB : B <= p.block) (u : Value) : Reads (w.setCell p u) B size A n xs :=
 h.keep fun q hq => World.cell?_setCell_other w p q u (fun e => by subst e; omega)
theorem Reads.grown (h : Reads w B size A n xs) {row : Option Nat} (hg : w.grownBy w' row) (hB : B <= w.heap.size) (hr : ∀ g, row = some g -> B <= g) : Reads w' B size A n xs :=
 h.keep fun p hp => World.cell?_of_block (hg.block p.block (by omega) (fun e => by have := hr _ e.symm; omega))
theorem Reads.cut (h : Reads w B size A n xs) {k cap : Nat} (hk : k <= n) (hc : n <= cap) :
   Reads w B size (if cap = k then A else A.map (·.add (k * size))) (n - k) (xs.drop (k * size)) := by
 refine ⟨by rw [List.length_drop, h.1, Nat.sub_mul], fun hn => ?_⟩
 obtain ⟨ad, rfl, hb, hcell⟩ := h.2 (by omega)
 rw [if_neg (by omega)]
 refine ⟨ad.add (k * size), rfl, by rw [zg2]; exact hb, fun j u hu => ?_⟩
 rw [zom]
 exact hcell _ u (by rw [<- hu, List.getElem?_drop])
theorem Reads.of_own {base : Nat} {e : TypeId} {c : Nat} (h : w.ownsRow base e size (.slice A n c) n xs) : Reads w w.heap.size size A n xs := by
 refine ⟨h.1, fun hn => ?_⟩
 obtain ⟨g, cap, hv, _, hlt⟩ := h.form hn
 have hA : A = some ⟨g, 0, none⟩ := by injection hv
 subst hA
 exact ⟨_, rfl, hlt, h.cells (g := g) rfl⟩
end
def Blk (w : World) (g : Nat) (t : TypeId) (cs : Array Value) : Prop := w.heap[g]? = some (.cells cs t (0, 0))
section
variable {w w' : World} {g : Nat} {t : TypeId} {cs : Array Value}
theorem Blk.lt (h : Blk w g t cs) : g < w.heap.size := by
 rcases Nat.lt_or_ge g w.heap.size with hlt | hge
 . exact hlt
 . unfold Blk at h; rw [Array.getElem?_eq_none hge] at h; cases h
theorem Blk.cell (h : Blk w g t cs) (i : Nat) : w.cell? ⟨g, i, none⟩ = cs[i]? := cell_of_row w g i cs t (0, 0) h
theorem Blk.frozen (h : Blk w g t cs) (i : Nat) : w.frozen? ⟨g, i, none⟩ = false := by
 unfold Blk at h
 simp [World.frozen?, h]
theorem Blk.new (w : World) (t : TypeId) (cs : Array Value) : Blk (w.alloc (.cells cs t)) w.heap.size t cs := heap_alloc_new w _
theorem Blk.drew (h : Blk w g t cs) : Blk w.drew g t cs := h
theorem Blk.drewN (h : Blk w g t cs) (n : Nat) : Blk (w.drewN n) g t cs := h
theorem Blk.alloc (h : Blk w g t cs) (o : Obj) : Blk (w.alloc o) g t cs := (Below.heap_alloc w o g h.lt).trans h
theorem Blk.set_ (h : Blk w g t cs) (i : Nat) (u : Value) : Blk (w.setCell ⟨g, i, none⟩ u) g t (cs.setIfInBounds i u) := by
 unfold Blk at h ⊢
 simp [World.setCell, Array.getElem?_modify, h]
theorem Blk.far (h : Blk w g t cs) {p : Addr} (hp : g ≠ p.block) (u : Value) : Blk (w.setCell p u) g t cs := (Below.heap_setCell w p u g hp).trans h
theorem Blk.below {B : Nat} (h : Blk w g t cs) (hb : Below B w w') (hg : g < B) : Blk w' g t cs := (hb.block g hg).trans h
theorem Blk.grown {row : Option Nat} (h : Blk w g t cs) (hb : w.grownBy w' row) (hg : some g ≠ row) : Blk w' g t cs := (hb.block g h.lt hg).trans h
theorem Blk.ne_ {g' : Nat} {t' : TypeId} {cs' : Array Value} (h : Blk w g t cs) (h' : Blk w g' t' cs') (hne : t ≠ t') : g ≠ g' := by
 rintro rfl
 unfold Blk at h h'
 rw [h] at h'
 injection h' with h'
 injection h' with _ ht
 exact hne ht
theorem zae {base : Nat} {e : TypeId} {size n : Nat} {v : Value} {xs : List Value} (h : w.ownsRow base e size v n xs) (hg : Blk w g t cs) (hne : e ≠ t) : v.ownBlock ≠ some g := by
 rcases h.2 with ⟨rfl, _⟩ | ⟨g', cap, cur, rfl, _, hh, _⟩
 . simp [Value.ownBlock]
 . intro he
   have : g' = g := by simpa [Value.ownBlock] using he
   subst this
   exact Blk.ne_ (t := e) hh hg hne rfl
end
section
variable {P : Program} (w : World)
theorem zhz (base : Nat) (t ty e : TypeId) (i : TypeInfo) (size : Nat) (ht : P.underlying t = some (.slice e)) (hi : P.info? e = some i)
   (v : Value) (n : Nat) (xs : List Value) (hown : w.ownsRow base e size v n xs) (c : Nat) : (Builtin.append_ #[t, t] ty #[v, .slice none 0 c]).run P w = .ok v w := by
 rcases hown.2 with ⟨rfl, rfl⟩ | ⟨g, cap, cur, rfl, _, _, hnc, _⟩
 . simp [Builtin.append_, run_underlying ht, sizeOf, typeInfo, hi, Builtin.lenOf, Builtin.firstCells]
 . simp [Builtin.append_, run_underlying ht, sizeOf, typeInfo, hi, Builtin.lenOf, Builtin.firstCells, hnc, storeCells]
theorem zjt (base : Nat) (t ty e : TypeId) (i : TypeInfo) (z : Value) (size bytes : Nat) (ht : P.underlying t = some (.slice e)) (hi : P.info? e = some i) (hz : i.zero = some z)
   (hsize : i.size = size) (hby : i.bytes = bytes) (hzs : z.cells.size = size) (hsz : 0 < size)
   (v : Value) (n : Nat) (xs : List Value) (hown : w.ownsRow base e size v n xs)
   (B : Nat) (A : Option Addr) (m c : Nat) (news : List Value) (hr : Reads w B size A m news) (h1 : ∀ u ∈ news, u.oneCell' = true)
   (h63 : n + m <= maxLen) (hbytes : (n + m) * bytes <= 140737488355328) (hbase : base <= w.heap.size) :
   ∃ v' w', (Builtin.append_ #[t, t] ty #[v, .slice A m c]).run P w = .ok v' w' /\ w'.ownsRow base e size v' (n + m) (xs ++ news) /\ w.grownBy w' v.ownBlock /\
     (v'.ownBlock = v.ownBlock \/ v'.ownBlock = some w.heap.size) := by
 rcases A with _ | ad
 . have hm : m = 0 := by
     rcases Nat.eq_zero_or_pos m with h0 | h0
     . exact h0
     . obtain ⟨ad, h, _⟩ := hr.2 h0
       cases h
   subst hm
   have hn : news = [] := List.eq_nil_of_length_eq_zero (by simpa using hr.1)
   subst hn
   exact ⟨v, w, zhz w base t ty e i size ht hi v n xs hown c, by simpa using hown, World.grownBy.refl w _, .inl rfl⟩
 . have hcells : ∀ j u, news[j]? = some u -> w.cell? (ad.add j) = some u := by
     intro j u hu
     rcases Nat.eq_zero_or_pos m with h0 | h0
     . subst h0
       have hn : news = [] := List.eq_nil_of_length_eq_zero (by simpa using hr.1)
       subst hn
       simp at hu
     . obtain ⟨ad', h, _, hc⟩ := hr.2 h0
       injection h with h
       subst h
       exact hc j u hu
   obtain ⟨v', w', hrun, h2, h3, _, h5⟩ := run_append_own_at (P := P) w base t ty e i z size bytes ht hi hz hsize hby hzs hsz v n xs hown ad m c news hr.1 hcells h1 h63 hbytes hbase
   exact ⟨v', w', hrun, h2, h3, h5⟩
theorem zdk {o : Oper} {a : Act} {K : Act -> World -> Prop} {Q : Exit -> Act -> World -> Prop} (s x : Operand) (t : TypeId)
   (ho : o.op = .call { callee := .builtin .append, args := #[s, x], argTypes := #[t, t] })
   (base : Nat) (e : TypeId) (i : TypeInfo) (z : Value) (size bytes : Nat) (ht : P.underlying t = some (.slice e)) (hi : P.info? e = some i) (hz : i.zero = some z)
   (hsize : i.size = size) (hby : i.bytes = bytes) (hzs : z.cells.size = size) (hsz : 0 < size)
   (v : Value) (n : Nat) (xs : List Value) (hs : a.eval s = v) (hown : w.ownsRow base e size v n xs)
   (B : Nat) (A : Option Addr) (m c : Nat) (news : List Value) (hx : a.eval x = .slice A m c) (hr : Reads w B size A m news) (h1 : ∀ u ∈ news, u.oneCell' = true)
   (h63 : n + m <= maxLen) (hbytes : (n + m) * bytes <= 140737488355328) (hbase : base <= w.heap.size)
   (h : ∀ v' w', w'.ownsRow base e size v' (n + m) (xs ++ news) -> w.grownBy w' v.ownBlock -> (v'.ownBlock = v.ownBlock \/ v'.ownBlock = some w.heap.size) -> K (a.put o.dst v') w') : o.wp P a w K Q := by
 obtain ⟨v', w', hrun, h2, h3, h4⟩ := zjt (P := P) w base t o.type e i z size bytes ht hi hz hsize hby hzs hsz v n xs hown B A m c news hr h1 h63 hbytes hbase
 unfold Oper.wp execOp
 simp only [ho, resolve, invoke, builtin, Sem.run_bind, Sem.run_pure, Result.andThen_ok, List.map_toArray, List.map_cons, List.map_nil, hs, hx, hrun]
 exact h v' w' h2 h3 h4
theorem zah {ops : Array Oper} {rest : List Oper} {o : Oper} {a : Act} {Q : Exit -> Act -> World -> Prop} (hgd : o.guard = none) (s x : Operand) (t : TypeId)
   (ho : o.op = .call { callee := .builtin .append, args := #[s, x], argTypes := #[t, t] })
   (base : Nat) (e : TypeId) (i : TypeInfo) (z : Value) (size bytes : Nat) (ht : P.underlying t = some (.slice e)) (hi : P.info? e = some i) (hz : i.zero = some z)
   (hsize : i.size = size) (hby : i.bytes = bytes) (hzs : z.cells.size = size) (hsz : 0 < size)
   (v : Value) (n : Nat) (xs : List Value) (hs : a.eval s = v) (hown : w.ownsRow base e size v n xs)
   (B : Nat) (A : Option Addr) (m c : Nat) (news : List Value) (hx : a.eval x = .slice A m c) (hr : Reads w B size A m news) (h1 : ∀ u ∈ news, u.oneCell' = true)
   (h63 : n + m <= maxLen) (hbytes : (n + m) * bytes <= 140737488355328) (hbase : base <= w.heap.size)
   (h : ∀ v' w', w'.ownsRow base e size v' (n + m) (xs ++ news) -> w.grownBy w' v.ownBlock -> (v'.ownBlock = v.ownBlock \/ v'.ownBlock = some w.heap.size) -> wpList P ops Q rest (a.put o.dst v') w') : wpList P ops Q (o :: rest) a w :=
 wpList_plain hgd fun _ hK => zdk w s x t ho base e i z size bytes ht hi hz hsize hby hzs hsz v n xs hs hown B A m c news hx hr h1 h63 hbytes hbase fun v' w' h2 h3 h4 => hK _ _ (h v' w' h2 h3 h4)
theorem zc9 {ops : Array Oper} {o : Oper} {a : Act} {K : Act -> World -> Prop} {Q : Exit -> Act -> World -> Prop} {E : Prop} (hgd : o.guard = none) (s x : Operand) (t : TypeId)
   (ho : o.op = .call { callee := .builtin .append, args := #[s, x], argTypes := #[t, t] })
   (base : Nat) (e : TypeId) (i : TypeInfo) (z : Value) (size bytes : Nat) (ht : P.underlying t = some (.slice e)) (hi : P.info? e = some i) (hz : i.zero = some z)
   (hsize : i.size = size) (hby : i.bytes = bytes) (hzs : z.cells.size = size) (hsz : 0 < size)
   (v : Value) (n : Nat) (xs : List Value) (hs : a.eval s = v) (hown : w.ownsRow base e size v n xs)
   (B : Nat) (A : Option Addr) (m c : Nat) (news : List Value) (hx : a.eval x = .slice A m c) (hr : Reads w B size A m news) (h1 : ∀ u ∈ news, u.oneCell' = true)
   (h63 : n + m <= maxLen) (hbytes : (n + m) * bytes <= 140737488355328) (hbase : base <= w.heap.size)
   (h : ∀ v' w', w'.ownsRow base e size v' (n + m) (xs ++ news) -> w.grownBy w' v.ownBlock -> (v'.ownBlock = v.ownBlock \/ v'.ownBlock = some w.heap.size) -> K (a.put o.dst v') w') :
   if Region.wanted o (yielded ops a.tmps) = true then Oper.wp P o a w K Q else E := by
 have hw : Region.wanted o (yielded ops a.tmps) = true := by simp [Region.wanted, hgd]
 rw [if_pos hw]
 exact zdk w s x t ho base e i z size bytes ht hi hz hsize hby hzs hsz v n xs hs hown B A m c news hx hr h1 h63 hbytes hbase h
end
theorem zaa {p : Prop} (h : p) : Hid p := h
theorem zam {B : Nat} {a w : World} (h : Below B a w) (n : Nat) : Below B a (w.drewN n) := ⟨h.os, h.tape, h.output, h.size, h.block⟩
/-! ### frames by the blocks' types -/
def Imm (t : TypeId) : Prop := t = 137 \/ t = 68 \/ t = 139
structure Keep (w w' : World) : Prop where
 size : w.heap.size <= w'.heap.size
 block : ∀ (b : Nat) (cs : Array Value) (t : TypeId) (fz : Nat × Nat), w.heap[b]? = some (Obj.cells cs t fz) -> Imm t -> w'.heap[b]? = w.heap[b]?
theorem Keep.refl (w : World) : Keep w w := ⟨Nat.le_refl _, fun _ _ _ _ _ _ => rfl⟩
theorem Keep.trans {a b c : World} (h : Keep a b) (k : Keep b c) : Keep a c :=
 ⟨Nat.le_trans h.size k.size, fun g cs t fz hg ht => (k.block g cs t fz ((h.block g cs t fz hg ht).trans hg) ht).trans (h.block g cs t fz hg ht)⟩
theorem Keep.of_below {w w' : World} (h : Below w.heap.size w w') : Keep w w' :=
 ⟨h.size, fun g _ _ _ hg _ => h.block g (Array.getElem?_eq_some_iff.1 hg).1⟩
theorem Keep.drew {w : World} : Keep w w.drew := ⟨Nat.le_refl _, fun _ _ _ _ _ _ => rfl⟩
theorem Keep.drewN {w : World} (n : Nat) : Keep w (w.drewN n) := ⟨Nat.le_refl _, fun _ _ _ _ _ _ => rfl⟩
theorem Keep.alloc {w : World} (o : Obj) : Keep w (w.alloc o) := Keep.of_below ((Below.refl _ _).alloc (Nat.le_refl _) o)
theorem Keep.setCell {w : World} {g : Nat} {t : TypeId} {cs : Array Value} (h : Blk w g t cs) (ht : ¬ Imm t) {p : Addr} (hp : p.block = g) (u : Value) : Keep w (w.setCell p u) :=
 ⟨by simp [World.setCell], fun b cs' t' fz hb ht' => Below.heap_setCell w p u b (by
  rintro rfl
  unfold Blk at h
  rw [<- hp, hb] at h
  injection h with h
  injection h with _ h _
  exact ht (h ▸ ht'))⟩
structure Only (fp : Nat -> Prop) (w w' : World) : Prop where
 os : w'.os = w.os
 tape : w'.tape = w.tape
 output : w'.output = w.output
 size : w.heap.size <= w'.heap.size
 block : ∀ x, x < w.heap.size -> ¬ fp x -> w'.heap[x]? = w.heap[x]?
section
variable {fp fq : Nat -> Prop} {a b c w w' : World}
theorem Only.refl (fp : Nat -> Prop) (w : World) : Only fp w w := ⟨rfl, rfl, rfl, Nat.le_refl _, fun _ _ _ => rfl⟩
theorem Only.trans (h : Only fp a b) (k : Only fp b c) : Only fp a c :=
 ⟨k.os.trans h.os, k.tape.trans h.tape, k.output.trans h.output, Nat.le_trans h.size k.size, fun x hx hn => (k.block x (Nat.lt_of_lt_of_le hx h.size) hn).trans (h.block x hx hn)⟩
theorem Only.mono (h : Only fp a b) (hs : ∀ x, x < a.heap.size -> fp x -> fq x) : Only fq a b :=
 ⟨h.os, h.tape, h.output, h.size, fun x hx hn => h.block x hx fun hf => hn (hs x hx hf)⟩
theorem Only.trans' (h : Only fp a b) (k : Only fq b c) (hs : ∀ x, x < a.heap.size -> fq x -> fp x) : Only fp a c :=
 ⟨k.os.trans h.os, k.tape.trans h.tape, k.output.trans h.output, Nat.le_trans h.size k.size, fun x hx hn => (k.block x (Nat.lt_of_lt_of_le hx h.size) fun hf => hn (hs x hx hf)).trans (h.block x hx hn)⟩
theorem Only.of_below (h : Below a.heap.size a b) : Only fp a b := ⟨h.os, h.tape, h.output, h.size, fun x hx _ => h.block x hx⟩
theorem Only.below (h : Only fp a b) (k : Below b.heap.size b c) : Only fp a c := h.trans (Only.of_below k)
theorem Only.to_below (h : Only fp a b) {B : Nat} (hB : B <= a.heap.size) (hf : ∀ x, fp x -> B <= x) : Below B a b := ⟨h.os, h.tape, h.output, h.size, fun x hx => h.block x (by omega) fun k => by have := hf x k; omega⟩
theorem Only.setCell (h : Only fp a b) {p : Addr} (hp : fp p.block \/ a.heap.size <= p.block) (u : Value) : Only fp a (b.setCell p u) :=
 ⟨h.os, h.tape, h.output, by simpa [World.setCell] using h.size, fun x hx hn => (Below.heap_setCell b p u x (fun e => by subst e; rcases hp with hp | hp; exact hn hp; omega)).trans (h.block x hx hn)⟩
theorem Only.alloc (h : Only fp a b) (o : Obj) : Only fp a (b.alloc o) := h.below ((Below.refl _ _).alloc (Nat.le_refl _) o)
theorem Only.drew (h : Only fp a b) : Only fp a b.drew := ⟨h.os, h.tape, h.output, h.size, h.block⟩
theorem Only.drewN (h : Only fp a b) (n : Nat) : Only fp a (b.drewN n) := ⟨h.os, h.tape, h.output, h.size, h.block⟩
theorem Only.grown (h : Only fp a b) {row : Option Nat} (k : b.grownBy c row) (hr : ∀ g, row = some g -> fp g \/ a.heap.size <= g) : Only fp a c :=
 ⟨k.os.trans h.os, k.tape.trans h.tape, k.output.trans h.output, Nat.le_trans h.size k.size, fun x hx hn => (k.block x (Nat.lt_of_lt_of_le hx h.size) fun e => by rcases hr x e.symm with h1 | h1; exact hn h1; omega).trans (h.block x hx hn)⟩
theorem Only.blk (h : Only fp a b) {g : Nat} {t : TypeId} {cs : Array Value} (hb : Blk a g t cs) (hg : ¬ fp g) : Blk b g t cs := (h.block g hb.lt hg).trans hb
theorem Only.cell (h : Only fp a b) {p : Addr} (hp : p.block < a.heap.size) (hg : ¬ fp p.block) : b.cell? p = a.cell? p := World.cell?_of_block (h.block p.block hp hg)
end
theorem Only.set1 (w : World) (g i : Nat) (u : Value) : Only (· = g) w (w.setCell ⟨g, i, none⟩ u) := Only.setCell (fp := (· = g)) (p := ⟨g, i, none⟩) (Only.refl _ _) (.inl rfl) u
theorem Only.set2 {g : Nat} {a b : World} (h : Only (· = g) a b) (i : Nat) (u : Value) : Only (· = g) a (b.setCell ⟨g, i, none⟩ u) := Only.setCell (fp := (· = g)) (p := ⟨g, i, none⟩) h (.inl rfl) u
theorem Blk.only {fp : Nat -> Prop} {w w' : World} {g : Nat} {t : TypeId} {cs : Array Value} (hb : Blk w g t cs) (h : Only fp w w') (hg : ¬ fp g) : Blk w' g t cs := h.blk hb hg
theorem zaj {w : World} {a : Addr} {v : Value} (o : Obj) (h : w.cell? a = some v) : (w.alloc o).cell? a = some v := by
 rw [World.cell?_alloc_lt _ _ _ (World.block_lt_of_cell? w _ h)]; exact h
theorem Blk.new2 (w : World) (o : Obj) (t : TypeId) (cs : Array Value) : Blk ((w.alloc o).alloc (.cells cs t)) (w.heap.size + 1) t cs := by
 have := Blk.new (w.alloc o) t cs
 rwa [World.size_alloc] at this
theorem zab {w : World} {g : Nat} {t : TypeId} {cs : Array Value} {v : Value} (h : Blk w g t cs) (i : Nat) (hi : cs[i]? = some v) : w.cell? ⟨g, i, none⟩ = some v := by rw [h.cell]; exact hi
section
variable {P : Program} (w : World)
theorem zmz (dT sT ty elem : TypeId) (size g o dLen dCap : Nat) (a : Addr) (sLen sCap : Nat) (cur : Array Value) (t : TypeId) (cs : List Value)
   (hu : P.underlying dT = some (.slice elem)) (hs : (P.info? elem).map (·.size) = some size)
   (hg : w.heap[g]? = some (.cells cur t (0, 0))) (hn : cs.length = Nat.min sLen dLen * size)
   (hsrc : ∀ j v, cs[j]? = some v -> w.cell? (a.add j) = some v) (hfit : o + cs.length <= cur.size) (h1 : ∀ v ∈ cs, v.oneCell' = true) :
   (Builtin.copy_ #[dT, sT] ty #[.slice (some ⟨g, o, none⟩) dLen dCap, .slice (some a) sLen sCap]).run P w =
    .ok (goInt (Nat.min sLen dLen)) (w.setRow g (cur.toList.take o ++ cs ++ cur.toList.drop (o + cs.length)).toArray) := by
 have hst := run_storeCells_at P g o t cs 0 cur w hg (by simpa using hfit) h1
 cases hq : P.info? elem with
 | none => simp [hq] at hs
 | some i =>
   have hi : i.size = size := by simpa [hq] using hs
   have hf := run_firstCells_some (P := P) w i.size (Nat.min sLen dLen) a sLen sCap cs (by rw [hi]; exact hn) hsrc
   simp [Builtin.copy_, run_underlying hu, Builtin.lenOf, sizeOf, typeInfo, hq, hf, hst]
theorem zle (t e ty : TypeId) (z : Value) (ht : P.underlying t = some (.slice e)) (hv : (zeroValue e).run P w = .ok z w) (size : Nat) (hz : z.cells.size = size) (h1 : ∀ u ∈ z.cells.toList, u.oneCell' = true)
   (g o c : Nat) (cur : Array Value) (tt : TypeId) (hg : w.heap[g]? = some (.cells cur tt (0, 0))) (hfit : o + size <= cur.size) :
   (Builtin.clear_ #[t] ty #[.slice (some ⟨g, o, none⟩) 1 c]).run P w = .ok (.tuple #[]) (w.setRow g (cur.toList.take o ++ z.cells.toList ++ cur.toList.drop (o + size)).toArray) := by
 have hzc : (Builtin.zeroCells z.cells 1).toList = z.cells.toList := by
  simp only [Builtin.zeroCells, Nat.one_mul]
  apply List.ext_getElem
  . simp
  . intro i h1 h2
    simp only [Array.toList_map, Array.toList_range, List.getElem_map, List.getElem_range]
    have hlt : i < z.cells.size := by simpa using h2
    rw [Nat.mod_eq_of_lt hlt, getElem!_pos z.cells i hlt, Array.getElem_toList]
 have hlen : z.cells.toList.length = size := by simp [hz]
 have hst := run_storeCells_at P g o tt z.cells.toList 0 cur w hg (by rw [hlen]; simpa using hfit) h1
 simp only [Nat.add_zero] at hst
 rw [hlen] at hst
 simp [Builtin.clear_, run_underlying ht, hv, hzc, hst]
def spl (L : List Value) (o : Nat) (cs : List Value) : List Value := L.take o ++ cs ++ L.drop (o + cs.length)
theorem zav {L : List Value} {o : Nat} {cs : List Value} (h : o + cs.length <= L.length) : (spl L o cs).length = L.length := by
 unfold spl
 simp only [List.length_append, List.length_take, List.length_drop]
 omega
section
variable {o : Oper} {a : Act} {K : Act -> World -> Prop} {Q : Exit -> Act -> World -> Prop} {ops : Array Oper} {rest : List Oper} {E : Prop}
theorem ziv (d s : Operand) (dT sT : TypeId) (ho : o.op = .call { callee := .builtin .copy, args := #[d, s], argTypes := #[dT, sT] }) (elem : TypeId) (size : Nat) (hu : P.underlying dT = some (.slice elem)) (hsz : (P.info? elem).map (·.size) = some size)
   (g off dLen dCap : Nat) (ad : Addr) (sLen sCap : Nat) (hd : a.eval d = .slice (some ⟨g, off, none⟩) dLen dCap) (hs : a.eval s = .slice (some ad) sLen sCap)
   (cur : List Value) (t : TypeId) (hg : Blk w g t cur.toArray) (cs : List Value) (hn : cs.length = Nat.min sLen dLen * size)
   (hsrc : ∀ j v, cs[j]? = some v -> w.cell? (ad.add j) = some v) (hfit : off + cs.length <= cur.length) (h1 : ∀ v ∈ cs, v.oneCell' = true)
   (h : ∀ w', Blk w' g t (spl cur off cs).toArray -> w.grownBy w' (some g) -> w'.heap.size = w.heap.size -> K (a.put o.dst (goInt (Nat.min sLen dLen))) w') : o.wp P a w K Q := by
 have hrun := zmz (P := P) w dT sT o.type elem size g off dLen dCap ad sLen sCap cur.toArray t cs hu hsz hg hn hsrc (by simpa using hfit) h1
 unfold Oper.wp
 simp [execOp, ho, resolve, invoke, builtin, hd, hs, hrun, Result.andThen]
 exact h _ (by have := setRow_heap w g _ (spl cur off cs).toArray t _ hg; unfold Blk; simpa [spl] using this) ⟨rfl, rfl, rfl, by simp [World.setRow], fun k hk hne => setRow_other w g k _ (fun e => hne (by rw [e]))⟩ (by simp [World.setRow])
theorem zbv (hgd : o.guard = none) (d s : Operand) (dT sT : TypeId) (ho : o.op = .call { callee := .builtin .copy, args := #[d, s], argTypes := #[dT, sT] }) (elem : TypeId) (size : Nat) (hu : P.underlying dT = some (.slice elem)) (hsz : (P.info? elem).map (·.size) = some size)
   (g off dLen dCap : Nat) (ad : Addr) (sLen sCap : Nat) (hd : a.eval d = .slice (some ⟨g, off, none⟩) dLen dCap) (hs : a.eval s = .slice (some ad) sLen sCap)
   (cur : List Value) (t : TypeId) (hg : Blk w g t cur.toArray) (cs : List Value) (hn : cs.length = Nat.min sLen dLen * size)
   (hsrc : ∀ j v, cs[j]? = some v -> w.cell? (ad.add j) = some v) (hfit : off + cs.length <= cur.length) (h1 : ∀ v ∈ cs, v.oneCell' = true)
   (h : ∀ w', Blk w' g t (spl cur off cs).toArray -> w.grownBy w' (some g) -> w'.heap.size = w.heap.size -> wpList P ops Q rest (a.put o.dst (goInt (Nat.min sLen dLen))) w') : wpList P ops Q (o :: rest) a w :=
 wpList_plain hgd fun _ hK => ziv w d s dT sT ho elem size hu hsz g off dLen dCap ad sLen sCap hd hs cur t hg cs hn hsrc hfit h1 fun w' h2 h3 h4 => hK _ _ (h w' h2 h3 h4)
theorem zdx (hgd : o.guard = none) (d s : Operand) (dT sT : TypeId) (ho : o.op = .call { callee := .builtin .copy, args := #[d, s], argTypes := #[dT, sT] }) (elem : TypeId) (size : Nat) (hu : P.underlying dT = some (.slice elem)) (hsz : (P.info? elem).map (·.size) = some size)
   (g off dLen dCap : Nat) (ad : Addr) (sLen sCap : Nat) (hd : a.eval d = .slice (some ⟨g, off, none⟩) dLen dCap) (hs : a.eval s = .slice (some ad) sLen sCap)
   (cur : List Value) (t : TypeId) (hg : Blk w g t cur.toArray) (cs : List Value) (hn : cs.length = Nat.min sLen dLen * size)
   (hsrc : ∀ j v, cs[j]? = some v -> w.cell? (ad.add j) = some v) (hfit : off + cs.length <= cur.length) (h1 : ∀ v ∈ cs, v.oneCell' = true)
   (h : ∀ w', Blk w' g t (spl cur off cs).toArray -> w.grownBy w' (some g) -> w'.heap.size = w.heap.size -> K (a.put o.dst (goInt (Nat.min sLen dLen))) w') : if Region.wanted o (yielded ops a.tmps) = true then Oper.wp P o a w K Q else E := by
 have hw : Region.wanted o (yielded ops a.tmps) = true := by simp [Region.wanted, hgd]
 rw [if_pos hw]
 exact ziv w d s dT sT ho elem size hu hsz g off dLen dCap ad sLen sCap hd hs cur t hg cs hn hsrc hfit h1 h
theorem zlf (s x : Operand) (t : TypeId) (ho : o.op = .call { callee := .builtin .append, args := #[s, x], argTypes := #[t, t] }) (e : TypeId) (i : TypeInfo) (size : Nat) (ht : P.underlying t = some (.slice e)) (hi : P.info? e = some i) (hsz : i.size = size)
   (g n cap : Nat) (hs : a.eval s = .slice (some ⟨g, 0, none⟩) n cap) (cur : List Value) (hg : Blk w g e cur.toArray)
   (ad : Addr) (m c : Nat) (hx : a.eval x = .slice (some ad) m c) (news : List Value) (hl : news.length = m * size) (hnews : ∀ j u, news[j]? = some u -> w.cell? (ad.add j) = some u) (h1 : ∀ u ∈ news, u.oneCell' = true)
   (hroom : n + m <= cap) (hfit : n * size + news.length <= cur.length)
   (h : ∀ w', Blk w' g e (spl cur (n * size) news).toArray -> w.grownBy w' (some g) -> w'.heap.size = w.heap.size -> K (a.put o.dst (.slice (some ⟨g, 0, none⟩) (n + m) cap)) w') : o.wp P a w K Q := by
 subst hsz
 have hrun := run_append_room (P := P) w t o.type e i ht hi g n cap cur.toArray hg ad m c news hl hnews h1 hroom (by simpa using hfit)
 unfold Oper.wp
 simp [execOp, ho, resolve, invoke, builtin, hx, hs, hrun, Result.andThen]
 exact h _ (by have := setRow_heap w g _ (spl cur (n * i.size) news).toArray e _ hg; unfold Blk; simpa [spl] using this) ⟨rfl, rfl, rfl, by simp [World.setRow], fun k hk hne => setRow_other w g k _ (fun e => hne (by rw [e]))⟩ (by simp [World.setRow])
theorem zf2 (hgd : o.guard = none) (s x : Operand) (t : TypeId) (ho : o.op = .call { callee := .builtin .append, args := #[s, x], argTypes := #[t, t] }) (e : TypeId) (i : TypeInfo) (size : Nat) (ht : P.underlying t = some (.slice e)) (hi : P.info? e = some i) (hsz : i.size = size)
   (g n cap : Nat) (hs : a.eval s = .slice (some ⟨g, 0, none⟩) n cap) (cur : List Value) (hg : Blk w g e cur.toArray)
   (ad : Addr) (m c : Nat) (hx : a.eval x = .slice (some ad) m c) (news : List Value) (hl : news.length = m * size) (hnews : ∀ j u, news[j]? = some u -> w.cell? (ad.add j) = some u) (h1 : ∀ u ∈ news, u.oneCell' = true)
   (hroom : n + m <= cap) (hfit : n * size + news.length <= cur.length)
   (h : ∀ w', Blk w' g e (spl cur (n * size) news).toArray -> w.grownBy w' (some g) -> w'.heap.size = w.heap.size -> K (a.put o.dst (.slice (some ⟨g, 0, none⟩) (n + m) cap)) w') : if Region.wanted o (yielded ops a.tmps) = true then Oper.wp P o a w K Q else E := by
 have hw : Region.wanted o (yielded ops a.tmps) = true := by simp [Region.wanted, hgd]
 rw [if_pos hw]
 exact zlf w s x t ho e i size ht hi hsz g n cap hs cur hg ad m c hx news hl hnews h1 hroom hfit h
theorem zm0 (x : Operand) (t : TypeId) (ho : o.op = .call { callee := .builtin .clear, args := #[x], argTypes := #[t] }) (e : TypeId) (z : Value) (ht : P.underlying t = some (.slice e)) (hv : (zeroValue e).run P w = .ok z w) (size : Nat) (hz : z.cells.size = size) (h1 : ∀ u ∈ z.cells.toList, u.oneCell' = true)
   (g off c : Nat) (hx : a.eval x = .slice (some ⟨g, off, none⟩) 1 c) (cur : List Value) (tt : TypeId) (hg : Blk w g tt cur.toArray) (hfit : off + size <= cur.length)
   (h : ∀ w', Blk w' g tt (spl cur off z.cells.toList).toArray -> w.grownBy w' (some g) -> w'.heap.size = w.heap.size -> K (a.put o.dst (.tuple #[])) w') : o.wp P a w K Q := by
 have hrun := zle (P := P) w t e o.type z ht hv size hz h1 g off c cur.toArray tt hg (by simpa using hfit)
 unfold Oper.wp
 simp [execOp, ho, resolve, invoke, builtin, hx, hrun, Result.andThen]
 exact h _ (by have := setRow_heap w g _ (spl cur off z.cells.toList).toArray tt _ hg; unfold Blk; simpa [spl, hz] using this) ⟨rfl, rfl, rfl, by simp [World.setRow], fun k hk hne => setRow_other w g k _ (fun e => hne (by rw [e]))⟩ (by simp [World.setRow])
theorem zfl (hgd : o.guard = none) (x : Operand) (t : TypeId) (ho : o.op = .call { callee := .builtin .clear, args := #[x], argTypes := #[t] }) (e : TypeId) (z : Value) (ht : P.underlying t = some (.slice e)) (hv : (zeroValue e).run P w = .ok z w) (size : Nat) (hz : z.cells.size = size) (h1 : ∀ u ∈ z.cells.toList, u.oneCell' = true)
   (g off c : Nat) (hx : a.eval x = .slice (some ⟨g, off, none⟩) 1 c) (cur : List Value) (tt : TypeId) (hg : Blk w g tt cur.toArray) (hfit : off + size <= cur.length)
   (h : ∀ w', Blk w' g tt (spl cur off z.cells.toList).toArray -> w.grownBy w' (some g) -> w'.heap.size = w.heap.size -> wpList P ops Q rest (a.put o.dst (.tuple #[])) w') : wpList P ops Q (o :: rest) a w :=
 wpList_plain hgd fun _ hK => zm0 w x t ho e z ht hv size hz h1 g off c hx cur tt hg hfit fun w' h2 h3 h4 => hK _ _ (h w' h2 h3 h4)
theorem zd5 (hgd : o.guard = none) (s x : Operand) (t tn : TypeId) (ho : o.op = .call { callee := .builtin .append, args := #[s, x], argTypes := #[t, tn] }) (e : TypeId) (i : TypeInfo) (z : Value) (size bytes : Nat) (kn : IntKind) (ht : P.underlying t = some (.slice e)) (htn : P.underlying tn = some (.int kn)) (hi : P.info? e = some i) (hz : i.zero = some z)
   (hsz : i.size = size) (hby : i.bytes = bytes) (hzs : z.cells.size = size) (hpos : 0 < size) (base : Option Addr) (n cap k : Nat) (hs : a.eval s = .slice base n cap) (hx : a.eval x = .int .i64 k) (olds : List Value) (hl : olds.length = n * size) (hold : 0 < n -> ∃ ad, base = some ad /\ ∀ j u, olds[j]? = some u -> w.cell? (ad.add j) = some u)
   (h0 : 0 < k) (hgr : cap < n + k) (h63 : n + k <= maxLen) (hbytes : (n + k) * bytes <= 140737488355328)
   (h : ∀ (w' : World) (g cap' : Nat) (cur : List Value), Blk w' g e cur.toArray -> w.heap.size <= g -> w.grownBy w' none -> cur.length = cap' * size -> n + k <= cap' -> cap' <= maxLen -> cur.take (n * size) = olds -> wpList P ops Q rest (a.put o.dst (.slice (some ⟨g, 0, none⟩) (n + k) cap')) w') : wpList P ops Q (o :: rest) a w := by
 subst hsz
 subst hby
 have hf : (Builtin.firstCells i.size n (.slice base n cap)).run P w.drew = .ok olds.toArray w.drew := by
  rcases Nat.eq_zero_or_pos n with h0' | h0'
  . subst h0'
    have : olds = [] := List.eq_nil_of_length_eq_zero (by simpa using hl)
    subst this
    cases base <;> simp [Builtin.firstCells, loadCells, loadCellsFrom]
  . obtain ⟨ad, rfl, hc⟩ := hold h0'
    exact run_firstCells_some (P := P) w.drew i.size n ad n cap olds hl hc
 have hb1 : k * i.bytes <= (n + k) * i.bytes := Nat.mul_le_mul_right _ (by omega)
 have hrun := Lib.run_append_grow_zeros (P := P) w t tn o.type e i z .i64 kn ht htn hi hz base n cap olds hf k h0 hpos hgr (by simp only [maxLen] at h63; omega) (by omega) (growslice_fits (by omega) hbytes)
 have hge := grownCap_ge w (n + k) cap e
 have hcm := grownCap_le_maxLen w (n + k) cap e h63
 obtain ⟨L, hL⟩ : ∃ L : List Value, L.toArray = olds.toArray ++ Builtin.zeroCells z.cells k ++ Builtin.zeroCells z.cells (grownCap w (n + k) cap e - (n + k)) := ⟨_, Array.toArray_toList⟩
 have hL' : L = olds ++ (Builtin.zeroCells z.cells k).toList ++ (Builtin.zeroCells z.cells (grownCap w (n + k) cap e - (n + k))).toList := by
  have := congrArg Array.toList hL
  simpa using this
 rw [<- hL] at hrun
 have hlen : L.length = grownCap w (n + k) cap e * i.size := by
  rw [hL']
  simp only [List.length_append, Array.length_toList, size_zeroCells, hzs, hl, <- Nat.add_mul]
  congr 1
  omega
 have htake : L.take (n * i.size) = olds := by
  rw [hL', List.append_assoc, <- hl]
  exact List.take_left
 clear hL hL'
 refine wpList_plain hgd fun K hK => ?_
 unfold Oper.wp
 simp [execOp, ho, resolve, invoke, builtin, hx, hs, hrun, Result.andThen]
 refine hK _ _ (h _ w.heap.size _ L (heap_alloc_new w.drew _) (Nat.le_refl _) ⟨rfl, rfl, rfl, by simp, fun j hj _ => Below.heap_alloc w.drew _ j hj⟩ hlen hge hcm htake)
end
end
def bc (l : List UInt8) : List Value := l.map fun x => Value.int .u8 x.toNat
theorem zax (l : List UInt8) : (bc l).length = l.length := by simp [bc]
theorem zg3 (l : List UInt8) : ∀ u ∈ bc l, u.oneCell' = true := by
 intro u hu
 obtain ⟨x, _, rfl⟩ := List.mem_map.1 hu
 rfl
theorem zf3 (a b : List UInt8) : bc (a ++ b) = bc a ++ bc b := by simp [bc]
theorem zhm (a : List UInt8) (n : Nat) : bc (a.take n) = (bc a).take n := by simp [bc, List.map_take]
theorem ze6 (a : List UInt8) (n : Nat) : bc (a.drop n) = (bc a).drop n := by simp [bc, List.map_drop]
theorem zvh {l : List UInt8} {j : Nat} {x : UInt8} (h : l[j]? = some x) : (bc l)[j]? = some (Value.int .u8 x.toNat) := by simp [bc, h]
theorem zuv (l : List UInt8) (j : Nat) (h : j < l.length) : (bc l)[j]? = some (Value.int .u8 l[j].toNat) := zvh (List.getElem?_eq_getElem h)
theorem zuw {α : Type} {cur cs : List α} {o : Nat} (h : (cur.drop o).take cs.length = cs) (j : Nat) (v : α) (hv : cs[j]? = some v) : cur[o + j]? = some v := by
 rw [<- h, List.getElem?_take] at hv
 split at hv
 . rwa [List.getElem?_drop] at hv
 . cases hv
theorem Blk.range {w : World} {g : Nat} {t : TypeId} {cur cs : List Value} {o : Nat} (hb : Blk w g t cur.toArray) (h : (cur.drop o).take cs.length = cs) : w.rangeAt g o cs := fun j v hv => by
 rw [hb.cell]
 simpa using zuw h j v hv
section
variable {P : Program} {w : World} {ops : Array Oper} {rest : List Oper} {op : Oper} {a : Act} {K : Act -> World -> Prop} {Q : Exit -> Act -> World -> Prop} {E : Prop}
theorem zc5 (ty : TypeId) (x y : Operand) (ho : op.op = .store ty x y) (g o : Nat) (cs : List Value) (hx : a.eval x = .pointer (some ⟨g, o, none⟩)) (hy : a.eval y = .agg cs.toArray) (t : TypeId) (cur : List Value)
   (hg : Blk w g t cur.toArray) (hfit : o + cs.length <= cur.length) (hi : (P.info? ty).map (·.size) = some cs.length) (h1 : ∀ v ∈ cs, v.oneCell' = true)
   (h : ∀ w', Blk w' g t (spl cur o cs).toArray -> w.grownBy w' (some g) -> w'.heap.size = w.heap.size -> K (a.put op.dst undef) w') : op.wp P a w K Q := by
 have hst := run_storeCells_at P g o t cs 0 cur.toArray w hg (by simpa using hfit) h1
 have hrun : (storeVar ty ⟨g, o, none⟩ (.agg cs.toArray)).run P w = .ok () (w.setRow g (cur.take o ++ cs ++ cur.drop (o + cs.length)).toArray) := by
  cases hq : P.info? ty with
  | none => simp [hq] at hi
  | some i =>
    have hs : i.size = cs.length := by simpa [hq] using hi
    simp only [Nat.add_zero] at hst
    simp [storeVar, sizeOf, typeInfo, hq, Value.cells, hs, hst]
 unfold Oper.wp execOp
 simp only [ho, hx, hy, Instr.storeAt, Instr.sureAddr, Sem.run_bind, Sem.run_pure, Result.andThen_ok, hrun]
 exact h _ (by have := setRow_heap w g _ (spl cur o cs).toArray t _ hg; unfold Blk; simpa [spl] using this) ⟨rfl, rfl, rfl, by simp [World.setRow], fun k hk hne => setRow_other w g k _ (fun e => hne (by rw [e]))⟩ (by simp [World.setRow])
theorem ziw (hgd : op.guard = none) (ty : TypeId) (x y : Operand) (ho : op.op = .store ty x y) (g o : Nat) (cs : List Value) (hx : a.eval x = .pointer (some ⟨g, o, none⟩)) (hy : a.eval y = .agg cs.toArray) (t : TypeId) (cur : List Value)
   (hg : Blk w g t cur.toArray) (hfit : o + cs.length <= cur.length) (hi : (P.info? ty).map (·.size) = some cs.length) (h1 : ∀ v ∈ cs, v.oneCell' = true)
   (h : ∀ w', Blk w' g t (spl cur o cs).toArray -> w.grownBy w' (some g) -> w'.heap.size = w.heap.size -> wpList P ops Q rest (a.put op.dst undef) w') : wpList P ops Q (op :: rest) a w :=
 wpList_plain hgd fun _ hK => zc5 ty x y ho g o cs hx hy t cur hg hfit hi h1 fun w' h2 h3 h4 => hK _ _ (h w' h2 h3 h4)
theorem zaw {S : World -> Prop} {md : Region.Mode} {i fuel : Nat} {listed : Array Bool} {o : Oper} (hr : Region.ready md ops listed = [i]) (ho : ops[i]? = some o) (hw : Region.wanted o (yielded ops a.tmps) = true)
   (h : o.wp P a w (fun a' w' => S w' /\ wpAnyH P md ops Q S fuel (listed.setIfInBounds i true) a' w') Q) : wpAnyH P md ops Q S (fuel + 1) listed a w := by
 refine wpAnyH_all hr (by simp) fun j hj => ?_
 obtain rfl := List.mem_singleton.1 hj
 unfold wpOp
 simp only [ho, hw, if_true]
 exact .inl h
theorem zfc {K : Act -> World -> Prop} {o : Oper} {v : Value} {w' : World} (h : (execOp a.eval o).run P w = .ok (.value v) w') (hK : K (a.put o.dst v) w') : o.wp P a w K Q := by
 unfold Oper.wp
 rw [h]
 exact hK
theorem zdy {S : World -> Prop} {md : Region.Mode} {i fuel : Nat} {listed : Array Bool} {o : Oper} {v : Value} {w' : World} (d : Option Tmp) (hr : Region.ready md ops listed = [i]) (ho : ops[i]? = some o) (hd : o.dst = d) (hw : Region.wanted o (yielded ops a.tmps) = true)
   (hv : (execOp a.eval o).run P w = .ok (.value v) w') (hS : S w') (h : wpAnyH P md ops Q S fuel (listed.setIfInBounds i true) (a.put d v) w') : wpAnyH P md ops Q S (fuel + 1) listed a w := by
 subst hd
 exact zaw hr ho hw (zfc hv ⟨hS, h⟩)
theorem ztp {K : Act -> World -> Prop} {o : Oper} {w' : World} (h : (execOp a.eval o).run P w = .ok .skip w') (hK : K (a.put o.dst undef) w') : o.wp P a w K Q := by
 unfold Oper.wp
 rw [h]
 exact hK
theorem zm1 {S : World -> Prop} {md : Region.Mode} {i fuel : Nat} {listed : Array Bool} {o : Oper} {w' : World} (hr : Region.ready md ops listed = [i]) (ho : ops[i]? = some o) (hd : o.dst = none) (hw : Region.wanted o (yielded ops a.tmps) = true)
   (hv : (execOp a.eval o).run P w = .ok .skip w') (hS : S w') (h : wpAnyH P md ops Q S fuel (listed.setIfInBounds i true) a w') : wpAnyH P md ops Q S (fuel + 1) listed a w := by
 refine zaw hr ho hw (ztp hv ⟨hS, ?_⟩)
 rw [hd]
 exact h
theorem zfv {S : World -> Prop} {md : Region.Mode} {i fuel : Nat} {listed : Array Bool} {o : Oper} {f : FuncId} {args : Array Value} (d : Option Tmp) (hr : Region.ready md ops listed = [i]) (ho : ops[i]? = some o) (hd : o.dst = d) (hw : Region.wanted o (yielded ops a.tmps) = true)
   (hrun : (execOp a.eval o).run P w = .ok (.enter f args) w) {R : Ending -> World -> Prop} {v : Value} {R' : World -> Prop} (hc : Calls P f args w R) (hR : ∀ e w', R e w' -> e = .returned v /\ R' w')
   (h : ∀ w', R' w' -> S w' /\ wpAnyH P md ops Q S fuel (listed.setIfInBounds i true) (a.put d v) w') : wpAnyH P md ops Q S (fuel + 1) listed a w := by
 subst hd
 refine zaw hr ho hw ?_
 unfold Oper.wp
 rw [hrun]
 refine hc.mono fun e w' hh => ?_
 obtain ⟨rfl, h2⟩ := hR e w' hh
 exact h w' h2
theorem zda {S : World -> Prop} {md : Region.Mode} {i fuel : Nat} {listed : Array Bool} {o : Oper} {f : FuncId} {args : Array Value} (d : Option Tmp) (hr : Region.ready md ops listed = [i]) (ho : ops[i]? = some o) (hd : o.dst = d) (hw : Region.wanted o (yielded ops a.tmps) = true)
   (hrun : (execOp a.eval o).run P w = .ok (.enter f args) w) {R : Ending -> World -> Prop} (hc : Calls P f args w R)
   (h : ∀ e w', R e w' -> ∃ v, e = .returned v /\ S w' /\ wpAnyH P md ops Q S fuel (listed.setIfInBounds i true) (a.put d v) w') : wpAnyH P md ops Q S (fuel + 1) listed a w := by
 subst hd
 refine zaw hr ho hw ?_
 unfold Oper.wp
 rw [hrun]
 refine hc.mono fun e w' hh => ?_
 obtain ⟨v, rfl, h2⟩ := h e w' hh
 exact h2
theorem zai {S : World -> Prop} {md : Region.Mode} {i : Nat} {oi : Oper} {v : Value} {fuel : Nat} {listed : Array Bool} (d : Option Tmp) (hi : ops[i]? = some oi) (hd : oi.dst = d) (hs : Region.noSelect ops = true) (hf : Region.free md ops listed i = true) (hr : (Region.ready md ops listed).contains i = true)
   (hQ : ∀ c a w, Q (.panic c) (a.put d v) w -> Q (.panic c) a w) (hy : YieldsIf P ops S oi v a) (hS : S w) (h : wpAnyH P md ops Q S fuel (listed.setIfInBounds i true) (a.put d v) w) : wpAnyH P md ops Q S (fuel + 1) listed a w := by
 subst hd
 exact wpAnyH_take hi hs hf hr hQ hy hS h
theorem zew {S : World -> Prop} {md : Region.Mode} {i j fuel : Nat} {listed : Array Bool} {oi oj : Oper} {vi vj : Value} {w' : World} (di dj : Option Tmp) (hr : Region.ready md ops listed = [i, j]) (hri : Region.ready md ops (listed.setIfInBounds i true) = [j]) (hrj : Region.ready md ops (listed.setIfInBounds j true) = [i])
   (hc : (listed.setIfInBounds j true).setIfInBounds i true = (listed.setIfInBounds i true).setIfInBounds j true) (hoi : ops[i]? = some oi) (hoj : ops[j]? = some oj) (hdi : oi.dst = di) (hdj : oj.dst = dj)
   (hwi : Region.wanted oi (yielded ops a.tmps) = true) (hwj : Region.wanted oj (yielded ops a.tmps) = true) (hwi' : Region.wanted oi (yielded ops (a.put dj vj).tmps) = true) (hwj' : Region.wanted oj (yielded ops (a.put di vi).tmps) = true)
   (hi0 : (execOp a.eval oi).run P w = .ok (.value vi) w) (hi1 : (execOp (a.put dj vj).eval oi).run P w' = .ok (.value vi) w') (hj0 : (execOp a.eval oj).run P w = .ok (.value vj) w') (hj1 : (execOp (a.put di vi).eval oj).run P w = .ok (.value vj) w')
   (hS : S w) (hS' : S w') (hp : (a.put dj vj).put di vi = (a.put di vi).put dj vj)
   (h : wpAnyH P md ops Q S fuel ((listed.setIfInBounds i true).setIfInBounds j true) ((a.put di vi).put dj vj) w') : wpAnyH P md ops Q S (fuel + 2) listed a w := by
 subst hdi; subst hdj
 refine wpAnyH_all hr (by simp) fun k hk => ?_
 simp only [List.mem_cons, List.not_mem_nil, or_false] at hk
 rcases hk with rfl | rfl
 . unfold wpOp
   simp only [hoi, hwi, if_true]
   exact .inl (zfc hi0 ⟨hS, zaw hri hoj hwj' (zfc hj1 ⟨hS', h⟩)⟩)
 . unfold wpOp
   simp only [hoj, hwj, if_true]
   refine .inl (zfc hj0 ⟨hS', zaw hrj hoi hwi' (zfc hi1 ⟨hS', ?_⟩)⟩)
   rw [hc, hp]
   exact h
theorem zgu (t e : TypeId) (x : Operand) {o : Oper} (ho : o.op = .buildSlice t 1 #[(0, x)]) (cs : List Value) (hx : a.eval x = .agg cs.toArray) (ie : TypeInfo) (z : Value) (hu : P.underlying t = some (.slice e)) (hie : P.info? e = some ie) (hz : ie.zero = some z)
   (hs : ie.size = cs.length) (hpos : 0 < cs.length) (hsmall : cs.length <= 1000) : (execOp a.eval o).run P w = .ok (.value (.slice (some ⟨w.heap.size, 0, none⟩) 1 1)) (w.alloc (.cells cs.toArray e)) := by
 have hf := Great.fill_whole (s := cs.length) hpos [.agg cs.toArray] ((Array.range (1 * ie.size)).map (z.cells[· % z.cells.size]!)) (by intro v hv; rw [List.mem_singleton.1 hv]; simp [Value.cells]) (by simp [hs])
 have hf' : Instr.fill (fun i => some (i * ie.size, ie.size)) ((Array.range (1 * ie.size)).map (z.cells[· % z.cells.size]!)) (#[(0, x)].map fun (i, x) => (i, a.eval x)).toList = some cs.toArray := by
  rw [<- hs] at hf
  simpa [hx, Value.cells] using hf
 unfold execOp
 simp only [ho, Sem.run_bind, run_buildSlice w t e 1 _ cs.toArray ie z hu hie hz (by rw [hs]; omega) (by rw [hs]; omega) hf', Result.andThen_ok]
 rfl
theorem zc0 (hgd : op.guard = none) (ty : TypeId) (x y : Operand) (ho : op.op = .store ty x y) (w0 : World) (t : TypeId) (Z : Array Value) (cs : List Value) (hx : a.eval x = .pointer (some ⟨w0.heap.size, 0, none⟩)) (hy : a.eval y = .agg cs.toArray)
   (hz : Z.size = cs.length) (hi : (P.info? ty).map (·.size) = some cs.length) (h1 : ∀ v ∈ cs, v.oneCell' = true)
   (h : wpList P ops Q rest (a.put op.dst undef) (w0.alloc (.cells cs.toArray t))) : wpList P ops Q (op :: rest) a (w0.alloc (.cells Z t)) := by
 refine wpList_plain hgd fun K hK => ?_
 have hst := run_storeCells_at P w0.heap.size 0 t cs 0 Z (w0.alloc (.cells Z t)) (heap_alloc_new w0 _) (by omega) h1
 have hrun : (storeVar ty ⟨w0.heap.size, 0, none⟩ (.agg cs.toArray)).run P (w0.alloc (.cells Z t)) = .ok () (w0.alloc (.cells cs.toArray t)) := by
  cases hq : P.info? ty with
  | none => simp [hq] at hi
  | some i =>
    have hs : i.size = cs.length := by simpa [hq] using hi
    have : Z.toList.drop cs.length = [] := List.drop_of_length_le (by simp [hz])
    simp only [Nat.add_zero, List.take_zero, List.nil_append, Nat.zero_add, this, List.append_nil] at hst
    rw [World.setRow_alloc_new] at hst
    simp [storeVar, sizeOf, typeInfo, hq, Value.cells, hs, hst]
 unfold Oper.wp execOp
 simp only [ho, hx, hy, Instr.storeAt, Instr.sureAddr, Sem.run_bind, Sem.run_pure, Result.andThen_ok, hrun]
 exact hK _ _ h
end
theorem zad {w : World} {base s n : Nat} {T : TypeId} {v : Value} {xs : List Value} (h : w.ownsRow base T s v n xs) : ∃ A c, v = .slice A n c /\ n <= c /\ c <= maxLen /\ (∀ g, v.ownBlock = some g -> base <= g /\ g < w.heap.size /\ A = some ⟨g, 0, none⟩ /\ ∃ cur, Blk w g T cur /\ cur.size = c * s /\ cur.toList.take (n * s) = xs) /\ (v.ownBlock = none -> n = 0 /\ A = none) := by
 rcases h.2 with ⟨rfl, h0⟩ | ⟨g, cap, cur, rfl, hb, hg, hnc, hcm, hcs, hx⟩
 . exact ⟨none, 0, by rw [h0], by omega, Nat.zero_le _, fun g hg => by simp [Value.ownBlock] at hg, fun _ => ⟨h0, rfl⟩⟩
 . refine ⟨_, cap, rfl, hnc, hcm, fun g' hg' => ?_, fun h0 => by simp [Value.ownBlock] at h0⟩
   have e : g' = g := by simpa [Value.ownBlock] using hg'.symm
   subst e
   exact ⟨hb, Blk.lt (t := T) hg, rfl, cur, hg, hcs, hx⟩
theorem zaz {w : World} {base s n : Nat} {T : TypeId} {v : Value} {xs : List Value} (h : w.ownsRow base T s v n xs) {g : Nat} (hg : v.ownBlock = some g) : base <= g /\ g < w.heap.size := by
 obtain ⟨A, c, rfl, _, _, h1, _⟩ := zad h
 have := h1 g hg
 exact ⟨this.1, this.2.1⟩
theorem zak {w w' : World} {base s n : Nat} {T : TypeId} {v : Value} {xs : List Value} {fp : Nat -> Prop} (h : w.ownsRow base T s v n xs) (ho : Only fp w w') (hf : ∀ x cs, Blk w x T cs -> ¬ fp x) : w'.ownsRow base T s v n xs := by
 refine ⟨h.1, ?_⟩
 rcases h.2 with h0 | ⟨g, cap, cur, hv, hb, hg, hr⟩
 . exact .inl h0
 . exact .inr ⟨g, cap, cur, hv, hb, ho.blk (t := T) hg (hf _ _ hg), hr⟩
theorem zdf {w : World} {b1 b2 s1 s2 n1 n2 : Nat} {T1 T2 : TypeId} {v1 v2 : Value} {x1 x2 : List Value} (h1 : w.ownsRow b1 T1 s1 v1 n1 x1) (h2 : w.ownsRow b2 T2 s2 v2 n2 x2) (hT : T1 ≠ T2) : v1.ownBlock = v2.ownBlock -> v1.ownBlock ≠ none -> False := by
 intro e hn
 obtain ⟨g, hg⟩ := Option.ne_none_iff_exists'.1 hn
 obtain ⟨_, _, _, _, _, k1, _⟩ := zad h1
 obtain ⟨_, _, _, _, _, k2, _⟩ := zad h2
 obtain ⟨_, _, _, cur1, hb1, _⟩ := k1 g hg
 obtain ⟨_, _, _, cur2, hb2, _⟩ := k2 g (e ▸ hg)
 exact Blk.ne_ hb1 hb2 hT rfl
theorem zap {w w' : World} {base s n : Nat} {T : TypeId} {v : Value} {xs : List Value} (h : w.ownsRow base T s v n xs) (hb : Below w.heap.size w w') : w'.ownsRow base T s v n xs := zak (fp := fun _ => False) h (Only.of_below hb) fun _ _ _ k => k
theorem ze7 {L cs : List Value} (h : cs.length = L.length) : spl L 0 cs = cs := by
 unfold spl
 rw [List.take_zero, List.nil_append, Nat.zero_add, h, List.drop_length, List.append_nil]
theorem zf4 {α : Type} (l : List α) (a b n : Nat) (h : a + b <= n) : ((l.take n).drop a).take b = (l.drop a).take b := by
 rw [List.drop_take, List.take_take, Nat.min_eq_left (by omega)]
def SlU (w : World) (A : Option Addr) (n c : Nat) (bytes : List UInt8) : Prop :=
 bytes.length = n /\ n <= c /\ c <= maxLen /\ (0 < n -> ∃ g o cur, A = some ⟨g, o, none⟩ /\ Blk w g 5 cur /\ ∀ j u, (bc bytes)[j]? = some u -> cur[o + j]? = some u)
section
variable {w w' : World} {A : Option Addr} {n c : Nat} {bytes : List UInt8}
theorem SlU.only {fp : Nat -> Prop} (h : SlU w A n c bytes) (ho : Only fp w w') (hf : ∀ x cs, Blk w x 5 cs -> ¬ fp x) : SlU w' A n c bytes := by
 obtain ⟨h1, h2, h3, h4⟩ := h
 refine ⟨h1, h2, h3, fun h0 => ?_⟩
 obtain ⟨g, o, cur, hA, hg, hc⟩ := h4 h0
 exact ⟨g, o, cur, hA, ho.blk hg (hf _ _ hg), hc⟩
theorem SlU.below (h : SlU w A n c bytes) (hb : Below w.heap.size w w') : SlU w' A n c bytes := h.only (fp := fun _ => False) (Only.of_below hb) fun _ _ _ k => k
theorem SlU.src (h : SlU w A n c bytes) : 0 < (bc bytes).length -> ∃ ad, A = some ad /\ ∀ j v, (bc bytes)[j]? = some v -> w.cell? (ad.add j) = some v := by
 intro h0
 rw [zax, h.1] at h0
 obtain ⟨g, o, cur, hA, hg, hc⟩ := h.2.2.2 h0
 exact ⟨_, hA, fun j v hv => by rw [Addr.add_lit, hg.cell]; exact hc j v hv⟩
theorem SlU.at_ (h : SlU w A n c bytes) {j : Nat} (hj : j < n) : ∃ g o, A = some ⟨g, o, none⟩ /\ ∃ x, bytes[j]? = some x /\ w.cell? ⟨g, o + j, none⟩ = some (.int .u8 x.toNat) := by
 obtain ⟨g, o, cur, hA, hg, hc⟩ := h.2.2.2 (by omega)
 have hl : j < bytes.length := by rw [h.1]; exact hj
 refine ⟨g, o, hA, bytes[j], List.getElem?_eq_getElem hl, ?_⟩
 rw [hg.cell]
 exact hc j _ (zuv _ _ hl)
end
end Go.Proofs.YtemondlgcmpbbaaGreatDoor
