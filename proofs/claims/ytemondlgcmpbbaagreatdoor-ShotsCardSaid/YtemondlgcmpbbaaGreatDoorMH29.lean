/- St Sr Fw: merged. -/
import Derived.Test.YtemondlgcmpbbaaGreatDoorMH28
import Derived.Test.YtemondlgcmpbbaaGreatDoorMH18
import Derived.Test.YtemondlgcmpbbaaGreatDoorMH06
import Derived.Great.BuildSlice
import Derived.Laws.IdiomStrings
/- The store as one thing: at rest; with one transaction that writes. Begin, Put, Delete, Commit, Abort over it. -/
namespace Go.Proofs.YtemondlgcmpbbaaGreatDoor
open Go.RowKit

structure SR where
  g : Nat
  base : Nat
  m : Nums
  bytes : List UInt8
  dk : Nat
  rd : Nat
  hd : Hd
  rp : Value

structure Store (N : Nat) (w : World) (K b n x G : Nat) (wr : Value) (T : Tree) (r : SR) : Prop where
  disk : Dk w K b r.g r.base n (.slice none 0 0) r.m r.bytes []
  calm : r.m.calm
  dkb : Blk w r.dk 151 (#[dev b] ++ r.hd.cells)
  slot : r.hd.slot < 2
  gen : r.hd.gen ≤ G
  db : DbAt w x ⟨r.dk, r.rp, T.keys, wr, r.rd, false⟩
  rd : RdAt w r.rd []
  tree : TreeV (fun z => z < w.heap.size) w T r.rp []
  nb : N ≤ b
  ng : N ≤ r.g
  ndk : N ≤ r.dk
  nx : N ≤ x
  nrd : N ≤ r.rd

structure Trans (N : Nat) (w : World) (t x S : Nat) (T : Tree) (rp : Value) (ds : List Nat) (stamp : Int) : Prop where
  tx : TxAt w t ⟨x, rp, T.keys, true, false, stamp⟩
  tree : TreeV (fun z => z < w.heap.size) w T rp ds
  nd : ds.Nodup
  nds : ∀ y ∈ ds, N ≤ y
  nt : N ≤ t
  s0 : 0 ≤ stamp
  s1 : stamp ≤ S

theorem TreeV.up_ {w w' : World} {T : Tree} {rp : Value} {ds : List Nat} (h : TreeV (up (fun z => z < w.heap.size) w.heap.size) w' T rp ds) : TreeV (fun z => z < w'.heap.size) w' T rp ds :=
  (TreeV.restr (fp := fun _ => False) (fun _ _ _ _ _ => id) h).more fun _ h => h.2.1
section
variable {N K b n x G : Nat} {wr : Value} {T : Tree} {r : SR} {w w' : World}

theorem Store.step (h : Store N w K b n x G wr T r) {t : Nat} (ht : ∀ y T' cs, Blk w y T' cs → T' ≠ 94 → y ≠ t) (hrt : r.rd ≠ t) (ho : Only (fun y => y = t ∨ y = x) w w') {wr' : Value} (hd : DbAt w' x ⟨r.dk, r.rp, T.keys, wr', r.rd, false⟩) : Store N w' K b n x G wr' T r := by
  have hno : ∀ {y T' cs}, Blk w y T' cs → T' ≠ 94 → T' ≠ 91 → ¬ (y = t ∨ y = x) := fun hy h1 h2 e => by
    rcases e with e | e
    · exact ht _ _ _ hy h1 e
    · exact Blk.ne_ hy h.db h2 e
  refine ⟨h.disk.only ho (fun y hy e => ?_), h.calm, h.dkb.only ho (hno h.dkb (by decide) (by decide)), h.slot, h.gen, hd, ?_, ?_, h.nb, h.ng, h.ndk, h.nx, h.nrd⟩
  · rcases hy with rfl | rfl | hy
    · exact hno h.disk.at_ (by decide) (by decide) e
    · exact hno h.disk.blk (by decide) (by decide) e
    · simp [Value.ownBlock] at hy
  · exact h.rd.only ho (fun e => e.elim hrt (h.rd.ne_blk h.db))
  · exact (h.tree.only ho fun z T' cs _ hz hT => hno hz (fun e => notImm (X := 94) (by decide) (by decide) (by decide) (e ▸ hT)) (fun e => notImm (X := 91) (by decide) (by decide) (by decide) (e ▸ hT))).more fun z hz => Nat.lt_of_lt_of_le hz ho.size
theorem Store.below (h : Store N w K b n x G wr T r) (hb : Below w.heap.size w w') : Store N w' K b n x G wr T r :=
  ⟨h.disk.below hb, h.calm, h.dkb.below hb h.dkb.lt, h.slot, h.gen, Blk.below h.db hb (Blk.lt h.db), h.rd.only (Only.of_below (fp := fun _ => False) hb) id, (h.tree.below hb fun _ k => k).more fun _z hz => Nat.lt_of_lt_of_le hz hb.size, h.nb, h.ng, h.ndk, h.nx, h.nrd⟩
theorem Trans.below {t S : Nat} {rp : Value} {ds : List Nat} {stamp : Int} (h : Trans N w t x S T rp ds stamp) (hb : Below w.heap.size w w') : Trans N w' t x S T rp ds stamp :=
  ⟨Blk.below h.tx hb (Blk.lt h.tx), (h.tree.below hb fun _ k => k).more fun _z hz => Nat.lt_of_lt_of_le hz hb.size, h.nd, h.nds, h.nt, h.s0, h.s1⟩
theorem Store.size (h : Store N w K b n x G wr T r) : N ≤ w.heap.size := Nat.le_trans h.nx (Nat.le_of_lt (Blk.lt h.db))

theorem wrotes_writes (m : Nums) : ∀ k : Nat, (wrotes m k).writes = m.writes + k
  | 0 => by simp [wrotes]
  | k + 1 => by
    show (wrotes m k).writes + 1 = _
    rw [wrotes_writes m k]; omega
theorem Dk.more {K' g base : Nat} {cv : Value} {m : Nums} {bytes : List UInt8} {cache : List (Nat × List UInt8)} (h : Dk w K b g base n cv m bytes cache) (hK : K ≤ K') : Dk w K' b g base n cv m bytes cache := ⟨h.at_, h.blk, h.len, h.own, h.ok, h.many, h.num.mono hK, h.fits, h.base_⟩

theorem Store.more {K' : Nat} (h : Store N w K b n x G wr T r) (hK : K ≤ K') : Store N w K' b n x G wr T r := ⟨h.disk.more hK, h.calm, h.dkb, h.slot, h.gen, h.db, h.rd, h.tree, h.nb, h.ng, h.ndk, h.nx, h.nrd⟩

end
end Go.Proofs.YtemondlgcmpbbaaGreatDoor

/- The store as one thing, with transactions that read. -/
namespace Go.Proofs.YtemondlgcmpbbaaGreatDoor
open Go.RowKit

def KpP (N : Nat) (w w' : World) : Prop := Below N w w' ∧ ∀ y cs, Blk w y 68 cs → Blk w' y 68 cs
theorem KpP.refl (N : Nat) (w : World) : KpP N w w := ⟨Below.refl _ _, fun _ _ h => h⟩
theorem KpP.trans {N : Nat} {a b c : World} (h : KpP N a b) (k : KpP N b c) : KpP N a c := ⟨h.1.trans k.1, fun y cs hy => k.2 y cs (h.2 y cs hy)⟩
theorem KpP.of_below {N : Nat} {w w' : World} (h : Below w.heap.size w w') (hN : N ≤ w.heap.size) : KpP N w w' := ⟨h.mono hN, fun _ _ hy => hy.below h hy.lt⟩
theorem KpP.of_only {N : Nat} {w w' : World} {fp : Nat → Prop} (ho : Only fp w w') (hN : N ≤ w.heap.size) (hB : ∀ y, fp y → N ≤ y) (hP : ∀ y cs, Blk w y 68 cs → ¬ fp y) : KpP N w w' := ⟨ho.to_below hN hB, fun y cs hy => hy.only ho (hP y cs hy)⟩

structure Rdr where
  t : Nat
  T : Tree
  rp : Value

structure StoreR (N : Nat) (w : World) (K b n x G : Nat) (wr : Value) (T : Tree) (r : SR) (rs : List Rdr) : Prop where
  disk : Dk w K b r.g r.base n (.slice none 0 0) r.m r.bytes []
  calm : r.m.calm
  dkb : Blk w r.dk 151 (#[dev b] ++ r.hd.cells)
  slot : r.hd.slot < 2
  gen : r.hd.gen ≤ G
  db : DbAt w x ⟨r.dk, r.rp, T.keys, wr, r.rd, false⟩
  rd : RdAt w r.rd (rs.map (·.t))
  tree : TreeV (fun z => z < w.heap.size) w T r.rp []
  nb : N ≤ b
  ng : N ≤ r.g
  ndk : N ≤ r.dk
  nx : N ≤ x
  nrd : N ≤ r.rd
  rds : ∀ ρ ∈ rs, TxAt w ρ.t ⟨x, ρ.rp, ρ.T.keys, false, false, 0⟩ ∧ TreeV (fun z => z < w.heap.size) w ρ.T ρ.rp [] ∧ N ≤ ρ.t
  nodup : (rs.map (·.t)).Nodup

section
variable {N K b n x G : Nat} {wr : Value} {T : Tree} {r : SR} {rs : List Rdr} {w w' : World}

theorem Store.toR (h : Store N w K b n x G wr T r) : StoreR N w K b n x G wr T r [] :=
  ⟨h.disk, h.calm, h.dkb, h.slot, h.gen, h.db, h.rd, h.tree, h.nb, h.ng, h.ndk, h.nx, h.nrd, (fun _ h => by cases h), List.nodup_nil⟩
theorem StoreR.size (h : StoreR N w K b n x G wr T r rs) : N ≤ w.heap.size := Nat.le_trans h.nx (Nat.le_of_lt (Blk.lt h.db))
theorem StoreR.more {K' : Nat} (h : StoreR N w K b n x G wr T r rs) (hK : K ≤ K') : StoreR N w K' b n x G wr T r rs :=
  ⟨h.disk.more hK, h.calm, h.dkb, h.slot, h.gen, h.db, h.rd, h.tree, h.nb, h.ng, h.ndk, h.nx, h.nrd, h.rds, h.nodup⟩
theorem StoreR.txb (h : StoreR N w K b n x G wr T r rs) : ∀ k ∈ rs.map (·.t), TxB w k := fun k hk => by
  obtain ⟨ρ, hρ, rfl⟩ := List.mem_map.1 hk
  exact ⟨_, (h.rds ρ hρ).1⟩
theorem StoreR.only {fp : Nat → Prop} (h : StoreR N w K b n x G wr T r rs) (ho : Only fp w w') {wr' : Value} (hd : DbAt w' x ⟨r.dk, r.rp, T.keys, wr', r.rd, false⟩)
    (h1 : ∀ y T' cs, Blk w y T' cs → T' ≠ 94 → T' ≠ 91 → ¬ fp y) {rs' : List Rdr} (h2 : RdAt w' r.rd (rs'.map (·.t))) (h3 : ∀ ρ ∈ rs', TxAt w' ρ.t ⟨x, ρ.rp, ρ.T.keys, false, false, 0⟩ ∧ TreeV (fun z => z < w'.heap.size) w' ρ.T ρ.rp [] ∧ N ≤ ρ.t) (h4 : (rs'.map (·.t)).Nodup) : StoreR N w' K b n x G wr' T r rs' := by
  refine ⟨h.disk.only ho (fun y hy e => ?_), h.calm, h.dkb.only ho (h1 _ _ _ h.dkb (by decide) (by decide)), h.slot, h.gen, hd, h2, ?_, h.nb, h.ng, h.ndk, h.nx, h.nrd, h3, h4⟩
  · rcases hy with rfl | rfl | hy
    · exact h1 _ _ _ h.disk.at_ (by decide) (by decide) e
    · exact h1 _ _ _ h.disk.blk (by decide) (by decide) e
    · simp [Value.ownBlock] at hy
  · exact (h.tree.only ho fun z T' cs _ hz hT => h1 _ _ _ hz (fun e => notImm (X := 94) (by decide) (by decide) (by decide) (e ▸ hT)) (fun e => notImm (X := 91) (by decide) (by decide) (by decide) (e ▸ hT))).more fun z hz => Nat.lt_of_lt_of_le hz ho.size
theorem TreeV.txdb {fp : Nat → Prop} {T : Tree} {rp : Value} {ds : List Nat} (h : TreeV (fun z => z < w.heap.size) w T rp ds) (ho : Only fp w w') (h1 : ∀ y T' cs, Blk w y T' cs → T' ≠ 94 → T' ≠ 91 → ¬ fp y) : TreeV (fun z => z < w'.heap.size) w' T rp ds :=
  (h.only ho fun z T' cs _ hz hT => h1 _ _ _ hz (fun e => notImm (X := 94) (by decide) (by decide) (by decide) (e ▸ hT)) (fun e => notImm (X := 91) (by decide) (by decide) (by decide) (e ▸ hT))).more fun z hz => Nat.lt_of_lt_of_le hz ho.size
theorem StoreR.below (h : StoreR N w K b n x G wr T r rs) (hb : Below w.heap.size w w') : StoreR N w' K b n x G wr T r rs :=
  h.only (fp := fun _ => False) (Only.of_below hb) (Blk.below h.db hb (Blk.lt h.db)) (fun _ _ _ _ _ _ => id) (h.rd.only (Only.of_below (fp := fun _ => False) hb) id)
    (fun ρ hρ => by obtain ⟨a, c, d⟩ := h.rds ρ hρ; exact ⟨Blk.below a hb (Blk.lt a), c.txdb (fp := fun _ => False) (Only.of_below hb) (fun _ _ _ _ _ _ => id), d⟩) h.nodup
theorem Trans.only {t S : Nat} {T1 : Tree} {rp : Value} {ds : List Nat} {stamp : Int} {fp : Nat → Prop} (h : Trans N w t x S T1 rp ds stamp) (ho : Only fp w w') (ht : ¬ fp t) (h1 : ∀ y T' cs, Blk w y T' cs → T' ≠ 94 → T' ≠ 91 → ¬ fp y) : Trans N w' t x S T1 rp ds stamp :=
  ⟨Blk.only h.tx ho ht, h.tree.txdb ho h1, h.nd, h.nds, h.nt, h.s0, h.s1⟩
theorem rdr_ne {ρ : Rdr} {t : Nat} {τ : TxS} (hρ : TxAt w ρ.t ⟨x, ρ.rp, ρ.T.keys, false, false, 0⟩) (ht : TxAt w t τ) (hw : τ.write = true) : ρ.t ≠ t := fun e => by
  have := Blk.same hρ (e ▸ ht)
  simp [hw] at this

theorem StoreR.step (h : StoreR N w K b n x G wr T r rs) {t : Nat} (ht : ∀ y T' cs, Blk w y T' cs → T' ≠ 94 → y ≠ t) (hrt : r.rd ≠ t) (hrs : ∀ ρ ∈ rs, ρ.t ≠ t) (ho : Only (fun y => y = t ∨ y = x) w w') {wr' : Value} (hd : DbAt w' x ⟨r.dk, r.rp, T.keys, wr', r.rd, false⟩) : StoreR N w' K b n x G wr' T r rs := by
  have hno : ∀ y T' cs, Blk w y T' cs → T' ≠ 94 → T' ≠ 91 → ¬ (y = t ∨ y = x) := fun y T' cs hy h1 h2 e => by
    rcases e with e | e
    · exact ht _ _ _ hy h1 e
    · exact Blk.ne_ hy h.db h2 e
  refine h.only ho hd hno (h.rd.only ho fun e => e.elim hrt (h.rd.ne_blk h.db)) (fun ρ hρ => ?_) h.nodup
  obtain ⟨a, c, d⟩ := h.rds ρ hρ
  exact ⟨Blk.only a ho (fun e => e.elim (hrs ρ hρ) (Blk.ne_ a h.db (by decide))), c.txdb ho hno, d⟩
theorem StoreR.pair_ne {t : Nat} {τ : TxS} (h : StoreR N w K b n x G wr T r rs) (ht : TxAt w t τ) : ∀ y cs, Blk w y 68 cs → ¬ (y = t ∨ y = x) := fun y cs hy e => by
  rcases e with e | e
  · exact Blk.ne_ hy ht (by decide) e
  · exact Blk.ne_ hy h.db (by decide) e

theorem sr_begin (h : StoreR N w K b n x G (.pointer none) T r rs) :
    Calls Tryz.prog 22 #[.pointer (some ⟨x, 0, none⟩), .bool true] w fun e w' => ∃ t, e = .returned (.tuple #[.pointer (some ⟨t, 0, none⟩), .nilIface]) ∧ StoreR N w' K b n x G (.pointer (some ⟨t, 0, none⟩)) T r rs ∧ Trans N w' t x 0 T r.rp [] 0 ∧ KpP N w w' := by
  refine (begin_w x _ w h.db rfl rfl).mono ?_
  rintro e w' ⟨t, rfl, hT, hD, ht, ho⟩
  have hst : StoreR N w' K b n x G (.pointer (some ⟨t, 0, none⟩)) T r rs := h.step (t := t) (fun y T' cs hy _ => by have := hy.lt; omega) (by have := h.rd.lt; omega) (fun ρ hρ => by have := Blk.lt (h.rds ρ hρ).1; omega) (ho.mono fun _ _ h => .inr h) hD
  exact ⟨t, rfl, hst, ⟨hT, hst.tree, List.nodup_nil, (fun y hy => by cases hy), Nat.le_trans h.size ht, Int.le_refl _, Int.le_refl _⟩, KpP.of_only ho h.size (fun y e => e ▸ h.nx) fun y cs hy => Blk.ne_ hy h.db (by decide)⟩

theorem sr_put {t S : Nat} {T1 : Tree} {rp : Value} {ds : List Nat} {stamp : Int} (k v : Str) (h : StoreR N w K b n x G (.pointer (some ⟨t, 0, none⟩)) T r rs) (ht : Trans N w t x S T1 rp ds stamp) (hR : TR T1) (hp : T1.pairs.length ≤ 150) (h1 : okKey k) (h2 : okVal v) (hS : S ≤ 1000000000) (hroom : (T1.get k).isSome = true ∨ (T1.keys : Int) < roomN n) :
    Calls Tryz.prog 24 #[.pointer (some ⟨t, 0, none⟩), .string k, .string v] w fun e w' => e = .returned .nilIface ∧ StoreR N w' K b n x G (.pointer (some ⟨t, 0, none⟩)) T r rs ∧ (∃ rp' ds', Trans N w' t x (S + 1) (T1.put k v) rp' ds' (stamp + 1)) ∧ KpP N w w' := by
  have hm : mayK false false true true k = 0 := by
    have := h1.1; have := h1.2
    show (if k.size < 1 ∨ 8 < k.size then 1 else 0) = 0
    rw [if_neg (by omega)]
  refine (xput_ok t x rp T1 ds true false stamp _ k v w ht.tx h.db ht.tree ht.nd hR hp h1 h2 ht.s0 (by have := ht.s1; omega) hm b n n r.hd (some ⟨r.g, 0, none⟩) (.slice none 0 0) r.m h.dkb h.disk.at_ h.disk.fits hroom).mono ?_
  rintro e w' ⟨rfl, hD, ⟨rp', ds', a1, a2, a3, a4⟩, ho⟩
  refine ⟨rfl, h.step (t := t) (fun y T' cs hy e => Blk.ne_ hy ht.tx e) (h.rd.ne_blk ht.tx) (fun ρ hρ => rdr_ne (h.rds ρ hρ).1 ht.tx rfl) ho hD, ⟨rp', ds', a1, a2.up_, a3, fun y hy => ?_, ht.nt, by have := ht.s0; omega, by have := ht.s1; omega⟩, KpP.of_only ho h.size (fun y e => ?_) (h.pair_ne ht.tx)⟩
  · rcases a4 y hy with h' | h'
    · exact ht.nds y h'
    · exact Nat.le_trans h.size h'
  · rcases e with rfl | rfl
    · exact ht.nt
    · exact h.nx

theorem sr_delete {t S : Nat} {T1 : Tree} {rp : Value} {ds : List Nat} {stamp : Int} (k : Str) (h : StoreR N w K b n x G (.pointer (some ⟨t, 0, none⟩)) T r rs) (ht : Trans N w t x S T1 rp ds stamp) (hR : TR T1) (hp : T1.pairs.length ≤ 150) (h1 : okKey k) (hS : S ≤ 1000000000) :
    Calls Tryz.prog 23 #[.pointer (some ⟨t, 0, none⟩), .string k] w fun e w' => e = .returned .nilIface ∧ StoreR N w' K b n x G (.pointer (some ⟨t, 0, none⟩)) T r rs ∧ (∃ rp' ds', Trans N w' t x (S + 1) (T1.delete k) rp' ds' (stamp + 1)) ∧ KpP N w w' := by
  have hm : mayK false false true true k = 0 := by
    have := h1.1; have := h1.2
    show (if k.size < 1 ∨ 8 < k.size then 1 else 0) = 0
    rw [if_neg (by omega)]
  refine (xdelete_any t x rp T1 ds true false stamp _ k w ht.tx h.db ht.tree ht.nd hR hp (by have := h1.2; omega) ht.s0 (by have := ht.s1; omega)).mono ?_
  rintro e w' ⟨v, rfl, hv, hD, -, hc, ho⟩
  obtain ⟨rp', ds', a1, a2, a3, a4⟩ := hc hm
  obtain rfl : v = .nilIface := by
    rcases hv with h | h
    · exact h.2
    · exact absurd hm h.1
  refine ⟨rfl, h.step (t := t) (fun y T' cs hy e => Blk.ne_ hy ht.tx e) (h.rd.ne_blk ht.tx) (fun ρ hρ => rdr_ne (h.rds ρ hρ).1 ht.tx rfl) ho hD, ⟨rp', ds', a1, a2.up_, a3, fun y hy => ?_, ht.nt, by have := ht.s0; omega, by have := ht.s1; omega⟩, KpP.of_only ho h.size (fun y e => ?_) (h.pair_ne ht.tx)⟩
  · rcases a4 y hy with h' | h'
    · exact ht.nds y h'
    · exact Nat.le_trans h.size h'
  · rcases e with rfl | rfl
    · exact ht.nt
    · exact h.nx

theorem sr_beginR (h : StoreR N w K b n x G wr T r rs) (h4 : rs.length < 4) :
    Calls Tryz.prog 22 #[.pointer (some ⟨x, 0, none⟩), .bool false] w fun e w' => ∃ t, e = .returned (.tuple #[.pointer (some ⟨t, 0, none⟩), .nilIface]) ∧ StoreR N w' K b n x G wr T r (rs ++ [⟨t, T, r.rp⟩]) ∧ w.heap.size ≤ t ∧ (∀ t' S T1 rp ds st, Trans N w t' x S T1 rp ds st → Trans N w' t' x S T1 rp ds st) ∧ KpP N w w' := by
  refine (begin_okR x _ (rs.map (·.t)) w h.db rfl h.rd h.txb (by simpa using h4)).mono ?_
  rintro e w' ⟨t, rfl, hT, hD, hR, ht, ho⟩
  have hno : ∀ y T' cs, Blk w y T' cs → T' ≠ 91 → ¬ (y = x ∨ y = r.rd) := fun y T' cs hy h2 e => by
    rcases e with e | e
    · exact Blk.ne_ hy h.db h2 e
    · exact h.rd.ne_blk hy e.symm
  have htree := h.tree.txdb ho fun y T' cs hy _ h2 => hno y T' cs hy h2
  refine ⟨t, rfl, h.only ho hD (fun y T' cs hy _ h2 => hno y T' cs hy h2) (by rw [List.map_append]; exact hR) (fun ρ hρ => ?_) ?_, ht, fun t' S T1 rp ds st hh => hh.only ho (hno _ _ _ hh.tx (by decide)) fun y T' cs hy _ h2 => hno y T' cs hy h2, KpP.of_only ho h.size (fun y e => ?_) fun y cs hy => hno y _ cs hy (by decide)⟩
  · rcases List.mem_append.1 hρ with hρ | hρ
    · obtain ⟨a, c, d⟩ := h.rds ρ hρ
      exact ⟨Blk.only a ho (hno _ _ _ a (by decide)), c.txdb ho fun y T' cs hy _ h2 => hno y T' cs hy h2, d⟩
    · rw [List.mem_singleton.1 hρ]
      exact ⟨hT, htree, Nat.le_trans h.size ht⟩
  · rw [List.map_append]
    refine List.nodup_append.2 ⟨h.nodup, by simp, fun a ha c hc e => ?_⟩
    obtain ⟨ρ, hρ, rfl⟩ := List.mem_map.1 ha
    have hl := Blk.lt (h.rds ρ hρ).1
    simp only [List.map_cons, List.map_nil, List.mem_singleton] at hc
    omega
  · rcases e with rfl | rfl
    · exact h.nx
    · exact h.nrd

theorem sr_abortR {ρ : Rdr} (h : StoreR N w K b n x G wr T r (rs ++ [ρ])) :
    Calls Tryz.prog 27 #[.pointer (some ⟨ρ.t, 0, none⟩)] w fun e w' => e = .returned .nilIface ∧ StoreR N w' K b n x G wr T r rs ∧ TxAt w' ρ.t ⟨x, ρ.rp, ρ.T.keys, false, true, 0⟩ ∧ (∀ t' S T1 rp ds st, Trans N w t' x S T1 rp ds st → Trans N w' t' x S T1 rp ds st) ∧ KpP N w w' := by
  obtain ⟨hT, htr, hnt⟩ := h.rds ρ (by simp)
  refine (abort_any ρ.t x _ _ ((rs ++ [ρ]).map (·.t)) w hT h.db rfl h.rd h.txb rfl).mono ?_
  rintro e w' ⟨rfl, hT', hD, hR, ho⟩
  have hno : ∀ y T' cs, Blk w y T' cs → T' ≠ 94 → T' ≠ 91 → ¬ (y = ρ.t ∨ y = x ∨ y = r.rd) := fun y T' cs hy h1 h2 e => by
    rcases e with e | e | e
    · exact Blk.ne_ hy hT h1 e
    · exact Blk.ne_ hy h.db h2 e
    · exact h.rd.ne_blk hy e.symm
  have hnot : ∀ y τ, TxAt w y τ → y ≠ ρ.t → ¬ (y = ρ.t ∨ y = x ∨ y = r.rd) := fun y τ hy hne e => by
    rcases e with e | e | e
    · exact hne e
    · exact Blk.ne_ hy h.db (by decide) e
    · exact h.rd.ne_blk hy e.symm
  have hnd := h.nodup
  rw [List.map_append] at hnd
  have hnd' := List.nodup_append.1 hnd
  have hnr : ∀ σ ∈ rs, σ.t ≠ ρ.t := fun σ hσ e => hnd'.2.2 σ.t (List.mem_map_of_mem hσ) ρ.t (by simp) e
  have her : ((rs ++ [ρ]).map (·.t)).erase ρ.t = rs.map (·.t) := by
    rw [List.map_append, List.erase_append_right _ (fun hm => by obtain ⟨σ, hσ, e⟩ := List.mem_map.1 hm; exact hnr σ hσ e)]
    simp
  rw [her] at hR
  refine ⟨rfl, h.only ho hD hno hR (fun σ hσ => ?_) hnd'.1, hT', fun t' S T1 rp ds st hh => hh.only ho (hnot _ _ hh.tx (rdr_ne hT hh.tx rfl).symm) hno, KpP.of_only ho h.size (fun y e => ?_) fun y cs hy => hno y _ cs hy (by decide) (by decide)⟩
  · obtain ⟨a, c, d⟩ := h.rds σ (by simp [hσ])
    exact ⟨Blk.only a ho (hnot _ _ a (hnr σ hσ)), c.txdb ho hno, d⟩
  · rcases e with rfl | rfl | rfl
    · exact hnt
    · exact h.nx
    · exact h.nrd

theorem sr_commit {V V' : Str → Prop} {t S : Nat} {T1 : Tree} {rp : Value} {ds : List Nat} {stamp : Int} (h : StoreR N w K b n x G (.pointer (some ⟨t, 0, none⟩)) T r []) (ht : Trans N w t x S T1 rp ds stamp) (hg : Good V T1) (hg0 : Good V' T) (hn : 8 ≤ n ∧ n ≤ 400) (hG : G + 1 < 1073741824) (hK : K + 200 < edge) (hroom : T1.keys + T.keys + 10 ≤ n) (hd : tdirty T1 ≤ 190) :
    Calls Tryz.prog 26 #[.pointer (some ⟨t, 0, none⟩)] w fun e w' => e = .returned .nilIface ∧ (∃ T' r', StoreR N w' (K + 200) b n x (G + 1) (.pointer none) T' r' [] ∧ Good V T' ∧ tdirty T' = 0 ∧ T'.pairs = T1.pairs ∧ T'.keys = T1.keys ∧ r'.m.writes = r.m.writes + tdirty T1 + 1) ∧ KpP N w w' := by
  have hlen : ds.length = tdirty T1 := ht.tree.count
  refine (xcommit_ok t x rp T1 ds stamp ⟨r.dk, r.rp, T.keys, .pointer (some ⟨t, 0, none⟩), r.rd, false⟩ T K b r.g r.base n (.slice none 0 0) r.m r.bytes [] r.hd w ht.tx h.db rfl h.rd rfl
    ⟨h.disk, h.calm, h.dkb, ht.tree, ht.nd, h.tree, hn, h.slot, by have := h.gen; omega, hg.tf.q0, hg.sm, room_of hg hg0 hlen hroom, by omega, by simp⟩).mono ?_
  rintro e w' ⟨rfl, hp⟩
  have hgen := h.gen
  have hlay := hg.lay (g := r.hd.gen + 1) (n0 := n) (xs := comXs [(T, r.rp, [])] T1 n ds.length) (by omega) (by omega) (by omega) (fun y hy => (fr_mem (List.mem_of_mem_take hy)).2.1)
  refine ⟨rfl, ⟨T1.lay (r.hd.gen + 1) false (comXs [(T, r.rp, [])] T1 n ds.length), ⟨r.g, r.base, _, _, r.dk, r.rd, ⟨1 - r.hd.slot, r.hd.gen + 1, _, _⟩, rp⟩, ⟨hp.disk.more (by omega), ?_, hp.dkb, by show 1 - r.hd.slot < 2; omega, by show r.hd.gen + 1 ≤ G + 1; omega, hp.db, hp.rd, hp.tree, h.nb, h.ng, h.ndk, h.nx, h.nrd, (fun _ h => by cases h), List.nodup_nil⟩, hlay.1, hlay.2, Tree.lay_pairs _ _ _ _, rfl, ?_⟩, KpP.of_only hp.only h.size (fun y e => ?_) fun y cs hy e => ?_⟩
  · exact ((wrotes_calm h.calm _).tick.wrote).tick
  · show ((wrotes r.m ds.length).writes + 1 : Int) = _
    rw [wrotes_writes, hlen]
  · rcases e with (e | rfl | e) | rfl | rfl | rfl
    · rcases e with rfl | rfl | e
      · exact h.nb
      · exact h.ng
      · simp [Value.ownBlock] at e
    · exact h.ndk
    · exact ht.nds y e
    · exact ht.nt
    · exact h.nx
    · exact h.nrd
  · rcases e with (e | e | e) | e | e | e
    · exact h.disk.ne hy (by decide) (by decide) (by decide) e
    · exact Blk.ne_ hy h.dkb (by decide) e
    · obtain ⟨_, _, _, _, hn⟩ := ht.tree.dirt _ e
      exact Blk.ne_ hy hn (by decide) rfl
    · exact Blk.ne_ hy ht.tx (by decide) e
    · exact Blk.ne_ hy h.db (by decide) e
    · exact h.rd.ne_blk hy e.symm
end
end Go.Proofs.YtemondlgcmpbbaaGreatDoor

/- Walks: shadowkeep's pick, mixed, wide. -/
namespace Go.Proofs.YtemondlgcmpbbaaGreatDoor
open Go.RowKit

theorem pickk_fn (c : Int) (n : Nat) (w : World) (hc : I64 c) (hn : 0 < n) (hn2 : n ≤ 2147483648) :
    Calls Tryz.prog 18 #[.int .i64 c, .int .i64 n] w fun e w' => e = .returned (.int .i64 (pickN c n)) ∧ w = w' := by
  obtain ⟨h1, h2⟩ := hc
  have hn0 : ¬ (n : Int) = 0 := by omega
  have hn00 : ¬ n = 0 := by omega
  by_cases h0 : c < 0
  · obtain ⟨q, hq⟩ : ∃ q : Nat, c = -(q : Int) - 1 := ⟨(-(c + 1)).toNat, by omega⟩
    have hp : pickN c n = q % n := by unfold pickN; rw [if_pos h0, show (-(c + 1)).toNat = q by omega]
    rw [hp]
    subst hq
    have w1 : IntKind.i64.wrap (-(q : Int) - 1 + 1) = -(q : Int) := by rw [IntKind.wrap_i64]; omega
    have w2 : IntKind.i64.wrap (-(-(q : Int))) = (q : Int) := by rw [IntKind.wrap_i64]; omega
    have w2' : IntKind.i64.wrap (q : Int) = (q : Int) := by rw [IntKind.wrap_i64]; omega
    have hm : Int.tmod (q : Int) n = (q : Int) % n := Int.tmod_eq_emod_of_nonneg (by omega)
    have HPP := hide hp
    clear hp
    go_enter Tryz.func18, Tryz.ntmps18
    go_wp2
    go_ret
    exact ⟨by simp, rfl⟩
  · obtain ⟨q, hq⟩ : ∃ q : Nat, c = (q : Int) := ⟨c.toNat, by omega⟩
    have hp : pickN c n = q % n := by unfold pickN; rw [if_neg h0, hq]; rfl
    rw [hp]
    subst hq
    have hm : Int.tmod (q : Int) n = (q : Int) % n := Int.tmod_eq_emod_of_nonneg (by omega)
    have HPP := hide hp
    clear hp
    go_enter Tryz.func18, Tryz.ntmps18
    go_wp2
    go_ret
    exact ⟨by simp, rfl⟩

def mixedN (n : Nat) : Nat := (n * 1103515245 + 12345) % 2147483648
theorem mixedN_lt (n : Nat) : mixedN n < 2147483648 := Nat.mod_lt _ (by omega)
theorem mixed_fn (n : Nat) (w : World) (hn : n < 2147483648) :
    Calls Tryz.prog 20 #[.int .i64 n] w fun e w' => e = .returned (.int .i64 (mixedN n)) ∧ w = w' := by
  have w1 : IntKind.i64.wrap ((n : Int) * 1103515245) = (n : Int) * 1103515245 := by rw [IntKind.wrap_i64]; omega
  have w2 : IntKind.i64.wrap ((n : Int) * 1103515245 + 12345) = (n : Int) * 1103515245 + 12345 := by rw [IntKind.wrap_i64]; omega
  have w3 : ((n : Int) * 1103515245 + 12345).tmod 2147483648 = (mixedN n : Nat) := by
    rw [Int.tmod_eq_emod_of_nonneg (by omega)]; unfold mixedN; omega
  have w4 : IntKind.i64.wrap (mixedN n : Nat) = (mixedN n : Nat) := by have := mixedN_lt n; rw [IntKind.wrap_i64]; omega
  go_enter Tryz.func20, Tryz.ntmps20
  go_wp2
  go_ret
  exact ⟨rfl, rfl⟩

def wideK (i : Nat) : Str := ⟨#[107, 101, 121, 48, 48, 48, UInt8.ofNat (97 + i % 26), UInt8.ofNat (97 + i / 26)]⟩
end Go.Proofs.YtemondlgcmpbbaaGreatDoor
