/- St Fw Fl Ch: merged. -/
import Derived.Test.YtemondlgcmpbbaaGreatDoorMC26
import Derived.Test.YtemondlgcmpbbaaGreatDoorMC18
import Derived.Test.YtemondlgcmpbbaaGreatDoorMC06
import Derived.Great.BuildSlice
import Derived.Laws.IdiomStrings
/- The store as one thing: at rest; with one transaction that writes. Begin, Put, Delete, Commit, Abort over it. -/
namespace Go.Proofs.YtemondlgcmpbbaaGreatDoor
open Go.RowKit

/-- What a store keeps, and where. -/
structure SR where
  g : Nat
  base : Nat
  m : Nums
  bytes : List UInt8
  dk : Nat
  rd : Nat
  hd : Hd
  rp : Value

/-- A store on a disk of n blocks: nothing waits to be flushed; the blocks in memory lie at N and behind it. -/
structure Store (N : Nat) (w : World) (K b n x G : Nat) (wr : Value) (T : Tree) (r : SR) : Prop where
  disk : Dk w K b r.g r.base n (.slice none 0 0) r.m r.bytes []
  calm : r.m.calm
  dkb : Blk w r.dk 151 (#[dev b] ++ r.hd.cells)
  slot : r.hd.slot < 2
  gen : r.hd.gen ≤ G
  db : DbAt w x ⟨r.dk, r.rp, T.keys, wr, r.rd, false⟩
  rd : RdAt w r.rd []
  tree : TreeV (fun z => z < w.heap.size) w T r.rp []
  nb : N ≤ b
  ng : N ≤ r.g
  ndk : N ≤ r.dk
  nx : N ≤ x
  nrd : N ≤ r.rd

/-- A transaction that writes: its tree is T; the store's is T0. -/
structure Trans (N : Nat) (w : World) (t x S : Nat) (T : Tree) (rp : Value) (ds : List Nat) (stamp : Int) : Prop where
  tx : TxAt w t ⟨x, rp, T.keys, true, false, stamp⟩
  tree : TreeV (fun z => z < w.heap.size) w T rp ds
  nd : ds.Nodup
  nds : ∀ y ∈ ds, N ≤ y
  nt : N ≤ t
  s0 : 0 ≤ stamp
  s1 : stamp ≤ S

theorem TreeV.up_ {w w' : World} {T : Tree} {rp : Value} {ds : List Nat} (h : TreeV (up (fun z => z < w.heap.size) w.heap.size) w' T rp ds) : TreeV (fun z => z < w'.heap.size) w' T rp ds :=
  (TreeV.restr (fp := fun _ => False) (fun _ _ _ _ _ => id) h).more fun _ h => h.2.1
theorem imm_tx {x : Nat} {w : World} {cs : Array Value} (hx : Blk w x 94 cs) {z : Nat} {T : TypeId} {cz : Array Value} (hz : Blk w z T cz) (hT : Imm T) : z ≠ x := fun e => by
  subst e
  exact Blk.ne_ hz hx (fun e => notImm (X := 94) (by decide) (by decide) (by decide) (e ▸ hT)) rfl
theorem imm_db {x : Nat} {w : World} {cs : Array Value} (hx : Blk w x 91 cs) {z : Nat} {T : TypeId} {cz : Array Value} (hz : Blk w z T cz) (hT : Imm T) : z ≠ x := fun e => by
  subst e
  exact Blk.ne_ hz hx (fun e => notImm (X := 91) (by decide) (by decide) (by decide) (e ▸ hT)) rfl

section
variable {N K b n x G : Nat} {wr : Value} {T : Tree} {r : SR} {w w' : World}

/-- The store behind what writes to it and to a transaction alone. -/
theorem Store.step (h : Store N w K b n x G wr T r) {t : Nat} (ht : ∀ y T' cs, Blk w y T' cs → T' ≠ 94 → y ≠ t) (hrt : r.rd ≠ t) (ho : Only (fun y => y = t ∨ y = x) w w') {wr' : Value} (hd : DbAt w' x ⟨r.dk, r.rp, T.keys, wr', r.rd, false⟩) : Store N w' K b n x G wr' T r := by
  have hno : ∀ {y T' cs}, Blk w y T' cs → T' ≠ 94 → T' ≠ 91 → ¬ (y = t ∨ y = x) := fun hy h1 h2 e => by
    rcases e with e | e
    · exact ht _ _ _ hy h1 e
    · exact Blk.ne_ hy h.db h2 e
  refine ⟨h.disk.only ho (fun y hy e => ?_), h.calm, h.dkb.only ho (hno h.dkb (by decide) (by decide)), h.slot, h.gen, hd, ?_, ?_, h.nb, h.ng, h.ndk, h.nx, h.nrd⟩
  · rcases hy with rfl | rfl | hy
    · exact hno h.disk.at_ (by decide) (by decide) e
    · exact hno h.disk.blk (by decide) (by decide) e
    · simp [Value.ownBlock] at hy
  · exact h.rd.only ho (fun e => e.elim hrt (h.rd.ne_blk h.db))
  · exact (h.tree.only ho fun z T' cs _ hz hT => hno hz (fun e => notImm (X := 94) (by decide) (by decide) (by decide) (e ▸ hT)) (fun e => notImm (X := 91) (by decide) (by decide) (by decide) (e ▸ hT))).more fun z hz => Nat.lt_of_lt_of_le hz ho.size
theorem Store.below (h : Store N w K b n x G wr T r) (hb : Below w.heap.size w w') : Store N w' K b n x G wr T r :=
  ⟨h.disk.below hb, h.calm, h.dkb.below hb h.dkb.lt, h.slot, h.gen, Blk.below h.db hb (Blk.lt h.db), h.rd.only (Only.of_below (fp := fun _ => False) hb) id, (h.tree.below hb fun _ k => k).more fun _z hz => Nat.lt_of_lt_of_le hz hb.size, h.nb, h.ng, h.ndk, h.nx, h.nrd⟩
theorem Trans.below {t S : Nat} {rp : Value} {ds : List Nat} {stamp : Int} (h : Trans N w t x S T rp ds stamp) (hb : Below w.heap.size w w') : Trans N w' t x S T rp ds stamp :=
  ⟨Blk.below h.tx hb (Blk.lt h.tx), (h.tree.below hb fun _ k => k).more fun _z hz => Nat.lt_of_lt_of_le hz hb.size, h.nd, h.nds, h.nt, h.s0, h.s1⟩
theorem Store.size (h : Store N w K b n x G wr T r) : N ≤ w.heap.size := Nat.le_trans h.nx (Nat.le_of_lt (Blk.lt h.db))

theorem st_begin (h : Store N w K b n x G (.pointer none) T r) :
    Calls Tryz.prog 22 #[.pointer (some ⟨x, 0, none⟩), .bool true] w fun e w' => ∃ t, e = .returned (.tuple #[.pointer (some ⟨t, 0, none⟩), .nilIface]) ∧ Store N w' K b n x G (.pointer (some ⟨t, 0, none⟩)) T r ∧ Trans N w' t x 0 T r.rp [] 0 ∧ Below N w w' := by
  refine (begin_w x _ w h.db rfl rfl).mono ?_
  rintro e w' ⟨t, rfl, hT, hD, ht, ho⟩
  have hst : Store N w' K b n x G (.pointer (some ⟨t, 0, none⟩)) T r := h.step (t := t) (fun y T' cs hy _ => by have := hy.lt; omega) (by have := h.rd.lt; omega) (ho.mono fun _ _ h => .inr h) hD
  exact ⟨t, rfl, hst, ⟨hT, hst.tree, List.nodup_nil, (fun y hy => by cases hy), Nat.le_trans h.size ht, Int.le_refl _, Int.le_refl _⟩, ho.to_below h.size fun y e => e ▸ h.nx⟩

theorem st_put {t S : Nat} {T1 : Tree} {rp : Value} {ds : List Nat} {stamp : Int} (k v : Str) (h : Store N w K b n x G (.pointer (some ⟨t, 0, none⟩)) T r) (ht : Trans N w t x S T1 rp ds stamp) (hR : TR T1) (hp : T1.pairs.length ≤ 150) (h1 : okKey k) (h2 : okVal v) (hS : S ≤ 1000000000) (hroom : (T1.get k).isSome = true ∨ (T1.keys : Int) < roomN n) :
    Calls Tryz.prog 24 #[.pointer (some ⟨t, 0, none⟩), .string k, .string v] w fun e w' => e = .returned .nilIface ∧ Store N w' K b n x G (.pointer (some ⟨t, 0, none⟩)) T r ∧ (∃ rp' ds', Trans N w' t x (S + 1) (T1.put k v) rp' ds' (stamp + 1)) ∧ Below N w w' := by
  have hm : mayK false false true true k = 0 := by
    have := h1.1; have := h1.2
    show (if k.size < 1 ∨ 8 < k.size then 1 else 0) = 0
    rw [if_neg (by omega)]
  refine (xput_ok t x rp T1 ds true false stamp _ k v w ht.tx h.db ht.tree ht.nd hR hp h1 h2 ht.s0 (by have := ht.s1; omega) hm b n n r.hd (some ⟨r.g, 0, none⟩) (.slice none 0 0) r.m h.dkb h.disk.at_ h.disk.fits hroom).mono ?_
  rintro e w' ⟨rfl, hD, ⟨rp', ds', a1, a2, a3, a4⟩, ho⟩
  refine ⟨rfl, h.step (t := t) (fun y T' cs hy e => Blk.ne_ hy ht.tx e) (h.rd.ne_blk ht.tx) ho hD, ⟨rp', ds', a1, a2.up_, a3, fun y hy => ?_, ht.nt, by have := ht.s0; omega, by have := ht.s1; omega⟩, ho.to_below h.size fun y e => ?_⟩
  · rcases a4 y hy with h' | h'
    · exact ht.nds y h'
    · exact Nat.le_trans h.size h'
  · rcases e with rfl | rfl
    · exact ht.nt
    · exact h.nx

theorem st_delete {t S : Nat} {T1 : Tree} {rp : Value} {ds : List Nat} {stamp : Int} (k : Str) (h : Store N w K b n x G (.pointer (some ⟨t, 0, none⟩)) T r) (ht : Trans N w t x S T1 rp ds stamp) (hR : TR T1) (hp : T1.pairs.length ≤ 150) (h1 : okKey k) (hS : S ≤ 1000000000) :
    Calls Tryz.prog 23 #[.pointer (some ⟨t, 0, none⟩), .string k] w fun e w' => e = .returned .nilIface ∧ Store N w' K b n x G (.pointer (some ⟨t, 0, none⟩)) T r ∧ (∃ rp' ds', Trans N w' t x (S + 1) (T1.delete k) rp' ds' (stamp + 1)) ∧ Below N w w' := by
  have hm : mayK false false true true k = 0 := by
    have := h1.1; have := h1.2
    show (if k.size < 1 ∨ 8 < k.size then 1 else 0) = 0
    rw [if_neg (by omega)]
  refine (xdelete_any t x rp T1 ds true false stamp _ k w ht.tx h.db ht.tree ht.nd hR hp (by have := h1.2; omega) ht.s0 (by have := ht.s1; omega)).mono ?_
  rintro e w' ⟨v, rfl, hv, hD, -, hc, ho⟩
  obtain ⟨rp', ds', a1, a2, a3, a4⟩ := hc hm
  obtain rfl : v = .nilIface := by
    rcases hv with h | h
    · exact h.2
    · exact absurd hm h.1
  refine ⟨rfl, h.step (t := t) (fun y T' cs hy e => Blk.ne_ hy ht.tx e) (h.rd.ne_blk ht.tx) ho hD, ⟨rp', ds', a1, a2.up_, a3, fun y hy => ?_, ht.nt, by have := ht.s0; omega, by have := ht.s1; omega⟩, ho.to_below h.size fun y e => ?_⟩
  · rcases a4 y hy with h' | h'
    · exact ht.nds y h'
    · exact Nat.le_trans h.size h'
  · rcases e with rfl | rfl
    · exact ht.nt
    · exact h.nx

theorem wrotes_writes (m : Nums) : ∀ k : Nat, (wrotes m k).writes = m.writes + k
  | 0 => by simp [wrotes]
  | k + 1 => by
    show (wrotes m k).writes + 1 = _
    rw [wrotes_writes m k]; omega
theorem Dk.more {K' g base : Nat} {cv : Value} {m : Nums} {bytes : List UInt8} {cache : List (Nat × List UInt8)} (h : Dk w K b g base n cv m bytes cache) (hK : K ≤ K') : Dk w K' b g base n cv m bytes cache := ⟨h.at_, h.blk, h.len, h.own, h.ok, h.many, h.num.mono hK, h.fits, h.base_⟩

theorem Store.more {K' : Nat} (h : Store N w K b n x G wr T r) (hK : K ≤ K') : Store N w K' b n x G wr T r := ⟨h.disk.more hK, h.calm, h.dkb, h.slot, h.gen, h.db, h.rd, h.tree, h.nb, h.ng, h.ndk, h.nx, h.nrd⟩

theorem st_commit {V V' : Str → Prop} {t S : Nat} {T1 : Tree} {rp : Value} {ds : List Nat} {stamp : Int} (h : Store N w K b n x G (.pointer (some ⟨t, 0, none⟩)) T r) (ht : Trans N w t x S T1 rp ds stamp) (hg : Good V T1) (hg0 : Good V' T) (hn : 8 ≤ n ∧ n ≤ 400) (hG : G + 1 < 1073741824) (hK : K + 200 < edge) (hroom : T1.keys + T.keys + 10 ≤ n) (hd : tdirty T1 ≤ 190) :
    Calls Tryz.prog 26 #[.pointer (some ⟨t, 0, none⟩)] w fun e w' => e = .returned .nilIface ∧ (∃ T' r', Store N w' (K + 200) b n x (G + 1) (.pointer none) T' r' ∧ Good V T' ∧ tdirty T' = 0 ∧ T'.pairs = T1.pairs ∧ T'.keys = T1.keys ∧ r'.m.writes = r.m.writes + tdirty T1 + 1) ∧ Below N w w' := by
  have hlen : ds.length = tdirty T1 := ht.tree.count
  refine (xcommit_ok t x rp T1 ds stamp ⟨r.dk, r.rp, T.keys, .pointer (some ⟨t, 0, none⟩), r.rd, false⟩ T K b r.g r.base n (.slice none 0 0) r.m r.bytes [] r.hd w ht.tx h.db rfl h.rd rfl
    ⟨h.disk, h.calm, h.dkb, ht.tree, ht.nd, h.tree, hn, h.slot, by have := h.gen; omega, hg.tf.q0, hg.sm, room_of hg hg0 hlen hroom, by omega, by simp⟩).mono ?_
  rintro e w' ⟨rfl, hp⟩
  have hgen := h.gen
  have hlay := hg.lay (g := r.hd.gen + 1) (n0 := n) (xs := comXs [(T, r.rp, [])] T1 n ds.length) (by omega) (by omega) (by omega) (fun y hy => (fr_mem (List.mem_of_mem_take hy)).2.1)
  refine ⟨rfl, ⟨T1.lay (r.hd.gen + 1) false (comXs [(T, r.rp, [])] T1 n ds.length), ⟨r.g, r.base, _, _, r.dk, r.rd, ⟨1 - r.hd.slot, r.hd.gen + 1, _, _⟩, rp⟩, ⟨hp.disk.more (by omega), ?_, hp.dkb, by show 1 - r.hd.slot < 2; omega, by show r.hd.gen + 1 ≤ G + 1; omega, hp.db, hp.rd, hp.tree, h.nb, h.ng, h.ndk, h.nx, h.nrd⟩, hlay.1, hlay.2, Tree.lay_pairs _ _ _ _, rfl, ?_⟩, hp.only.to_below h.size fun y e => ?_⟩
  · exact ((wrotes_calm h.calm _).tick.wrote).tick
  · show ((wrotes r.m ds.length).writes + 1 : Int) = _
    rw [wrotes_writes, hlen]
  · rcases e with (e | rfl | e) | rfl | rfl | rfl
    · rcases e with rfl | rfl | e
      · exact h.nb
      · exact h.ng
      · simp [Value.ownBlock] at e
    · exact h.ndk
    · exact ht.nds y e
    · exact ht.nt
    · exact h.nx
    · exact h.nrd

theorem st_abort {t S : Nat} {T1 : Tree} {rp : Value} {ds : List Nat} {stamp : Int} (h : Store N w K b n x G (.pointer (some ⟨t, 0, none⟩)) T r) (ht : Trans N w t x S T1 rp ds stamp) :
    Calls Tryz.prog 27 #[.pointer (some ⟨t, 0, none⟩)] w fun e w' => e = .returned .nilIface ∧ Store N w' K b n x G (.pointer none) T r ∧ TxAt w' t ⟨x, rp, T1.keys, true, true, stamp⟩ ∧ Below N w w' := by
  refine (abort_any t x _ _ [] w ht.tx h.db rfl h.rd (fun k hk => by cases hk) rfl).mono ?_
  rintro e w' ⟨rfl, hT, hD, hr, ho⟩
  have hno : ∀ {y T' cs}, Blk w y T' cs → T' ≠ 94 → T' ≠ 91 → ¬ (y = t ∨ y = x ∨ y = r.rd) := fun hy h1 h2 e => by
    rcases e with e | e | e
    · exact Blk.ne_ hy ht.tx h1 e
    · exact Blk.ne_ hy h.db h2 e
    · exact h.rd.ne_blk hy e.symm
  refine ⟨rfl, ⟨h.disk.only ho (fun y hy e => ?_), h.calm, h.dkb.only ho (hno h.dkb (by decide) (by decide)), h.slot, h.gen, hD, hr, (h.tree.only ho fun z T' cs _ hz hT => hno hz (fun e => notImm (X := 94) (by decide) (by decide) (by decide) (e ▸ hT)) (fun e => notImm (X := 91) (by decide) (by decide) (by decide) (e ▸ hT))).more fun z hz => Nat.lt_of_lt_of_le hz ho.size, h.nb, h.ng, h.ndk, h.nx, h.nrd⟩, hT, ho.to_below h.size fun y e => ?_⟩
  · rcases hy with rfl | rfl | hy
    · exact hno h.disk.at_ (by decide) (by decide) e
    · exact hno h.disk.blk (by decide) (by decide) e
    · simp [Value.ownBlock] at hy
  · rcases e with rfl | rfl | rfl
    · exact ht.nt
    · exact h.nx
    · exact h.nrd
end
end Go.Proofs.YtemondlgcmpbbaaGreatDoor

/- Walks: shadowkeep's pick, mixed, wide. -/
namespace Go.Proofs.YtemondlgcmpbbaaGreatDoor
open Go.RowKit

theorem pickk_fn (c : Int) (n : Nat) (w : World) (hc : I64 c) (hn : 0 < n) (hn2 : n ≤ 2147483648) :
    Calls Tryz.prog 18 #[.int .i64 c, .int .i64 n] w fun e w' => e = .returned (.int .i64 (pickN c n)) ∧ w = w' := by
  obtain ⟨h1, h2⟩ := hc
  have hn0 : ¬ (n : Int) = 0 := by omega
  have hn00 : ¬ n = 0 := by omega
  by_cases h0 : c < 0
  · obtain ⟨q, hq⟩ : ∃ q : Nat, c = -(q : Int) - 1 := ⟨(-(c + 1)).toNat, by omega⟩
    have hp : pickN c n = q % n := by unfold pickN; rw [if_pos h0, show (-(c + 1)).toNat = q by omega]
    rw [hp]
    subst hq
    have w1 : IntKind.i64.wrap (-(q : Int) - 1 + 1) = -(q : Int) := by rw [IntKind.wrap_i64]; omega
    have w2 : IntKind.i64.wrap (-(-(q : Int))) = (q : Int) := by rw [IntKind.wrap_i64]; omega
    have w2' : IntKind.i64.wrap (q : Int) = (q : Int) := by rw [IntKind.wrap_i64]; omega
    have hm : Int.tmod (q : Int) n = (q : Int) % n := Int.tmod_eq_emod_of_nonneg (by omega)
    have HPP := hide hp
    clear hp
    go_enter Tryz.func18, Tryz.ntmps18
    go_wp2
    go_ret
    exact ⟨by simp, rfl⟩
  · obtain ⟨q, hq⟩ : ∃ q : Nat, c = (q : Int) := ⟨c.toNat, by omega⟩
    have hp : pickN c n = q % n := by unfold pickN; rw [if_neg h0, hq]; rfl
    rw [hp]
    subst hq
    have hm : Int.tmod (q : Int) n = (q : Int) % n := Int.tmod_eq_emod_of_nonneg (by omega)
    have HPP := hide hp
    clear hp
    go_enter Tryz.func18, Tryz.ntmps18
    go_wp2
    go_ret
    exact ⟨by simp, rfl⟩

/-- The next of a row of numbers. -/
def mixedN (n : Nat) : Nat := (n * 1103515245 + 12345) % 2147483648
theorem mixedN_lt (n : Nat) : mixedN n < 2147483648 := Nat.mod_lt _ (by omega)
theorem mixed_fn (n : Nat) (w : World) (hn : n < 2147483648) :
    Calls Tryz.prog 20 #[.int .i64 n] w fun e w' => e = .returned (.int .i64 (mixedN n)) ∧ w = w' := by
  have w1 : IntKind.i64.wrap ((n : Int) * 1103515245) = (n : Int) * 1103515245 := by rw [IntKind.wrap_i64]; omega
  have w2 : IntKind.i64.wrap ((n : Int) * 1103515245 + 12345) = (n : Int) * 1103515245 + 12345 := by rw [IntKind.wrap_i64]; omega
  have w3 : ((n : Int) * 1103515245 + 12345).tmod 2147483648 = (mixedN n : Nat) := by
    rw [Int.tmod_eq_emod_of_nonneg (by omega)]; unfold mixedN; omega
  have w4 : IntKind.i64.wrap (mixedN n : Nat) = (mixedN n : Nat) := by have := mixedN_lt n; rw [IntKind.wrap_i64]; omega
  go_enter Tryz.func20, Tryz.ntmps20
  go_wp2
  go_ret
  exact ⟨rfl, rfl⟩

theorem add_plain0 (b k : Nat) : Addr.add ⟨b, 0, none⟩ k = ⟨b, k, none⟩ := by
  unfold Addr.add
  split
  · rename_i h
    subst h
    rfl
  · show (⟨b, 0 + k, none⟩ : Addr) = _
    rw [Nat.zero_add]
/-- The i-th of many keys of eight bytes. -/
def wideK (i : Nat) : Str := ⟨#[107, 101, 121, 48, 48, 48, UInt8.ofNat (97 + i % 26), UInt8.ofNat (97 + i / 26)]⟩
theorem wideK_ok (i : Nat) : okKey (wideK i) := ⟨by show 1 ≤ 8; omega, by show 8 ≤ 8; omega⟩
theorem wideK_8 (i : Nat) : V8 (wideK i) := .inl rfl
set_option maxRecDepth 100000 in
theorem wide_fn (n : Nat) (w : World) (hn : n < 1000) :
    Calls Tryz.prog 21 #[.int .i64 n] w fun e w' => e = .returned (.string (wideK n)) ∧ Below w.heap.size w w' := by
  have w1 : (n : Int).tmod 26 = ((n % 26 : Nat) : Int) := by rw [Int.tmod_eq_emod_of_nonneg (by omega)]; omega
  have w1' : IntKind.i64.wrap ((n % 26 : Nat) : Int) = ((n % 26 : Nat) : Int) := by rw [IntKind.wrap_i64]; omega
  have w2 : (n : Int).tdiv 26 = ((n / 26 : Nat) : Int) := by rw [Int.tdiv_eq_ediv_of_nonneg (by omega)]; omega
  have w2' : IntKind.i64.wrap ((n / 26 : Nat) : Int) = ((n / 26 : Nat) : Int) := by rw [IntKind.wrap_i64]; omega
  have w3 : IntKind.i64.wrap (97 + ((n % 26 : Nat) : Int)) = 97 + ((n % 26 : Nat) : Int) := by rw [IntKind.wrap_i64]; omega
  have w4 : IntKind.i64.wrap (97 + ((n / 26 : Nat) : Int)) = 97 + ((n / 26 : Nat) : Int) := by rw [IntKind.wrap_i64]; omega
  have w5 : IntKind.u8.wrap (97 + ((n % 26 : Nat) : Int)) = 97 + ((n % 26 : Nat) : Int) := by rw [IntKind.wrap_u8]; omega
  have w6 : IntKind.u8.wrap (97 + ((n / 26 : Nat) : Int)) = 97 + ((n / 26 : Nat) : Int) := by rw [IntKind.wrap_u8]; omega
  have kc : (convert 77 9 (.slice (some ⟨w.heap.size, 0, none⟩) 8 8)).run Tryz.prog (w.alloc (.cells #[.int .u8 107, .int .u8 101, .int .u8 121, .int .u8 48, .int .u8 48, .int .u8 48, .int .u8 (97 + (n : Int) % 26), .int .u8 (97 + (n : Int) / 26)] 5)) = .ok (.string (wideK n)) (w.alloc (.cells #[.int .u8 107, .int .u8 101, .int .u8 121, .int .u8 48, .int .u8 48, .int .u8 48, .int .u8 (97 + (n : Int) % 26), .int .u8 (97 + (n : Int) / 26)] 5)) := by
    refine run_convert_bytes_back (P := Tryz.prog) _ 77 9 5 ⟨w.heap.size, 0, none⟩ 8 [107, 101, 121, 48, 48, 48, UInt8.ofNat (97 + n % 26), UInt8.ofNat (97 + n / 26)] Tryz.underlying77 Tryz.underlying5 Tryz.underlying9 fun j hj => ?_
    have hb := Blk.new w 5 #[.int .u8 107, .int .u8 101, .int .u8 121, .int .u8 48, .int .u8 48, .int .u8 48, .int .u8 (97 + (n : Int) % 26), .int .u8 (97 + (n : Int) / 26)]
    have h1 : ((UInt8.ofNat (97 + n % 26)).toNat : Int) = 97 + (n : Int) % 26 := by rw [UInt8.toNat_ofNat']; omega
    have h2 : ((UInt8.ofNat (97 + n / 26)).toNat : Int) = 97 + (n : Int) / 26 := by rw [UInt8.toNat_ofNat']; omega
    rw [add_plain0]
    match j, hj with
    | 0, _ => exact cellOf hb 0 rfl
    | 1, _ => exact cellOf hb 1 rfl
    | 2, _ => exact cellOf hb 2 rfl
    | 3, _ => exact cellOf hb 3 rfl
    | 4, _ => exact cellOf hb 4 rfl
    | 5, _ => exact cellOf hb 5 rfl
    | 6, _ => show _ = some (Value.int .u8 ((UInt8.ofNat (97 + n % 26)).toNat : Int)); rw [h1]; exact cellOf hb 6 rfl
    | 7, _ => show _ = some (Value.int .u8 ((UInt8.ofNat (97 + n / 26)).toNat : Int)); rw [h2]; exact cellOf hb 7 rfl
  have HB := hide (show Below w.heap.size w (w.alloc (.cells #[.int .u8 107, .int .u8 101, .int .u8 121, .int .u8 48, .int .u8 48, .int .u8 48, .int .u8 (97 + (n : Int) % 26), .int .u8 (97 + (n : Int) / 26)] 5)) from (Below.refl _ _).alloc (Nat.le_refl _) _)
  go_enter Tryz.func21, Tryz.ntmps21
  go_wp2
  go_ret
  exact ⟨rfl, HB.out⟩
end Go.Proofs.YtemondlgcmpbbaaGreatDoor

/- Walks: shadowkeep's filled. -/
namespace Go.Proofs.YtemondlgcmpbbaaGreatDoor
open Go.RowKit

/-- The keys of a store of k keys. -/
def VK (k : Nat) : Str → Prop := fun s => s ∈ (List.range k).map wideK ∨ s = noKey
theorem VK.to8 {k : Nat} : ∀ s, VK k s → V8 s := fun s h => by
  rcases h with h | h
  · obtain ⟨i, _, rfl⟩ := List.mem_map.1 h
    exact wideK_8 i
  · exact .inr h
theorem VK.more {k k' : Nat} (hk : k ≤ k') : ∀ s, VK k s → VK k' s := fun s h => by
  rcases h with h | h
  · obtain ⟨i, hi, rfl⟩ := List.mem_map.1 h
    exact .inl (List.mem_map.2 ⟨i, List.mem_range.2 (by have := List.mem_range.1 hi; omega), rfl⟩)
  · exact .inr h
theorem VK.wide {k i : Nat} (h : i < k) : VK k (wideK i) := .inl (List.mem_map.2 ⟨i, List.mem_range.2 h, rfl⟩)
theorem Good.mono {V V' : Str → Prop} {t : Tree} (h : Good V t) (hV : ∀ s, V s → V' s) : Good V' t := ⟨h.tr, h.tf, h.tk.mono hV, h.sm, h.few⟩
theorem VK.keys {k : Nat} {t : Tree} (hw : TW t) (h : TK (VK k) t) : t.keys ≤ k := by
  have := keys_le (L := (List.range k).map wideK) hw h
  simpa using this
theorem put_new {t : Tree} (hw : TW t) {k v : Str} (h1 : okKey k) (h2 : okVal v) (hg : (t.get k).isSome = false) : (t.put k v).keys = t.keys + 1 := by
  obtain ⟨e1, e2⟩ := put_pairs hw h1 h2 (key := k) (v := v)
  rw [e2.keys_, e1, hw.keys_]
  rw [hw.get] at hg
  have hth : there k t.pairs = false := by
    unfold lookup at hg
    unfold there
    cases hd : t.pairs.drop (place k t.pairs) with
    | nil => rfl
    | cons e l =>
      rw [hd] at hg
      simp only at hg ⊢
      by_cases hs : seq e.1 k = true
      · rw [if_pos hs] at hg; cases hg
      · simpa using hs
  unfold lput
  rw [hth]
  have := congrArg List.length (List.take_append_drop (place k t.pairs) t.pairs)
  rw [List.length_append] at this
  simp only [Bool.false_eq_true, if_false, List.length_append, List.length_cons]
  omega
theorem Good.put_wide {k i : Nat} {t : Tree} (h : Good (VK k) t) (hi : i < k) (hk : k ≤ 129) {v : Str} (h2 : okVal v) : Good (VK k) (t.put (wideK i) v) ∧ tdirty (t.put (wideK i) v) ≤ tdirty t + 9 := by
  refine h.put (.inr rfl) (VK.wide hi) (wideK_ok i) h2 (Nat.le_trans (VK.keys (h.tr.put (wideK_ok i) h2).tw (h.tk.put (.inr rfl) (VK.wide hi))) hk)
theorem Good.room_wide {k i : Nat} {t : Tree} (h : Good (VK k) t) (hi : i < k) : (t.get (wideK i)).isSome = true ∨ t.keys < k := by
  by_cases hg : (t.get (wideK i)).isSome = true
  · exact .inl hg
  · right
    have h2 : okVal ByteArray.empty := by show (0 : Nat) ≤ 12; omega
    have e := put_new h.tr.tw (wideK_ok i) h2 (by simpa using hg)
    have := VK.keys (h.tr.put (wideK_ok i) h2).tw (h.tk.put (.inr rfl) (VK.wide hi))
    omega
theorem Good.dirty_le {V : Str → Prop} {t : Tree} (h : Good V t) : tdirty t ≤ 133 := by
  have h1 := h.tf.nodes_le h.tr.tw h.few
  have h2 := t.cblks_len
  have := h.few
  omega

def sVal12 : Str := ⟨#[48, 49, 50, 51, 52, 53, 54, 55, 56, 57, 97, 98]⟩
theorem sVal12_ok : okVal sVal12 := Nat.le_refl 12

set_option maxRecDepth 100000 in
set_option maxHeartbeats 2000000 in
theorem filled_any (B k : Nat) (w : World) (hB : 8 ≤ B ∧ B ≤ 400) (hk : k ≤ 120) (hr : (k : Int) ≤ roomN B) (hkB : k + 10 ≤ B) :
    Calls Tryz.prog 19 #[.int .i64 B, .int .i64 k] w fun e w' => ∃ b x T r, e = .returned (.tuple #[.pointer (some ⟨b, 0, none⟩), .pointer (some ⟨x, 0, none⟩)]) ∧ Store w.heap.size w' 300 b B x 2 (.pointer none) T r ∧ Good (VK k) T ∧ tdirty T = 0 ∧ Below w.heap.size w w' := by
  have hbn : blocksN B = B := by unfold blocksN; rw [if_neg (by omega)]; omega
  have HN := hide (newDisk_any B w.heap.size w (Nat.le_refl _))
  rw [hbn] at HN
  have hf : fitsN B = true := (fitsN_iff B).2 hB
  have HHB := hide hB
  have HRM := hide hr
  have HFT := hide hf
  clear hbn hB hr hf
  go_enter Tryz.func19, Tryz.ntmps19
  go_wp2_with (first
    | (go_at_call 49; go_loud (
       refine HN.out.mono ?_; rintro e w1 ⟨b, g, rfl, hd1, hb1, hg1, hB1⟩
       have HF := hide (sformat_any _ _ _ _ _ _ _ _ _ _ hd1 Nums.new_calm (by decide) HFT.out)
       have HD1 := hide hd1
       have HB1 := hide hB1
       have HBG := hide (And.intro hb1 hg1)
       clear hd1 hb1 hg1 hB1))
    | (go_at_call 50; go_loud (
       refine HF.out.mono ?_; rintro e w2 ⟨rfl, hd2, ho2⟩
       obtain ⟨hdd, tl, hh, hz0, hHz⟩ := format_heads (bytes := List.replicate (B * 128) 0) (n := B) (G := 0) (by simp) HHB.out.1 (Hz_zero _ _) (by decide)
       have HO := hide (sopen_zero _ _ _ _ _ _ _ _ _ _ hd2 (((ticks_calm Nums.new_calm 2).tick.wrote).tick) (by decide) HFT.out hdd tl hh hz0)
       have HHD := hide (show hdd.slot < 2 ∧ hdd.gen ≤ 1 from ⟨(headUp_slot _ 2 hdd (headsN_mem _ hdd (by rw [hh]; simp))).1, (hHz.heads hdd (by rw [hh]; simp)).2⟩)
       have HC2 := hide (((ticks_calm Nums.new_calm 2).tick.wrote).tick)
       have HO2 := hide ho2
       clear hd2 ho2 hh hHz))
    | (go_at_call 38; go_loud (
       refine HO.out.mono ?_; rintro e w3 ⟨x, dk, rd, rfl, hdb, hrd, hdk, hx, hdkl, hrdl, hd3, ho3⟩
       have hs1 := HB1.out.size
       have hs2 := HO2.out.size
       have hw2 : w.heap.size ≤ w2.heap.size := Nat.le_trans hs1 hs2
       obtain ⟨m3, hm3, bytes3, hd3⟩ : ∃ m3 : Nums, m3.calm ∧ ∃ bytes3, Dk w3 (0 + 5 + 3) b g w.heap.size B (.slice none 0 0) m3 bytes3 [] := ⟨_, ticks_calm HC2.out 3, _, hd3⟩
       have hst : Store w.heap.size w3 8 b B x 1 (.pointer none) ⟨none, 0⟩ ⟨g, w.heap.size, m3, bytes3, dk, rd, hdd, .pointer none⟩ := ⟨hd3, hm3, hdk, HHD.out.1, HHD.out.2, hdb, hrd, .inl ⟨rfl, rfl, rfl⟩, HBG.out.1, HBG.out.2, Nat.le_trans hw2 hdkl, Nat.le_trans hw2 hx, Nat.le_trans hw2 hrdl⟩
       have HBEG := hide (st_begin hst)
       have HB3 := hide (show Below w.heap.size w w3 from (HB1.out.trans ((HO2.out.trans ho3).to_below hs1 (fun y e => by rcases e with rfl | rfl; exact HBG.out.1; exact HBG.out.2))))
       clear hst hdb hrd hdk hx hdkl hrdl hd3 ho3 hs1 hs2 hm3 hw2))
    | (go_at_call 22; go_loud (
       refine HBEG.out.mono ?_; rintro e w4 ⟨t, rfl, hs4, ht4, hb4⟩
       have HS4 := hide hs4
       have HT4 := hide ht4
       have HB4 := hide hb4
       clear hs4 ht4 hb4)))
  go_loopw [7, 12] (fun v i wr => ∃ j : Nat, j ≤ k ∧ v = .nilIface ∧ i = .int .i64 j ∧ Store w.heap.size wr 8 b B x 1 (.pointer (some ⟨t, 0, none⟩)) ⟨none, 0⟩ ⟨g, w.heap.size, m3, bytes3, dk, rd, hdd, .pointer none⟩ ∧ (∃ T1 rp ds stamp, Trans w.heap.size wr t x j T1 rp ds stamp ∧ Good (VK k) T1) ∧ Below w.heap.size w wr) (fun _ i _ => k - (intOf i).toNat)
  case atStart => exact ⟨0, Nat.zero_le _, rfl, rfl, HS4.out, ⟨_, _, _, _, HT4.out, Good.empty⟩, HB3.out.trans HB4.out⟩
  case round =>
    obtain ⟨j, hj, rfl, rfl, hs, ⟨T1, rp, ds, stamp, ht, hg⟩, hb⟩ := hrel
    by_cases hlt : j < k
    · have k2 : (j : Int) < (k : Int) := by omega
      have HW := hide (wide_fn j wr (by omega))
      have HS := hide hs
      have HT := hide ht
      have HG := hide hg
      have HB := hide hb
      clear hs ht hg hb
      go_wp2_with (first
        | (go_at_call 21; go_loud (
           refine HW.out.mono ?_; rintro e w5 ⟨rfl, hb5⟩
           have hrm : (T1.get (wideK j)).isSome = true ∨ (T1.keys : Int) < roomN B := (HG.out.room_wide hlt).imp id fun h => by have := HRM.out; omega
           have HP := hide (st_put (wideK j) sVal12 (HS.out.below hb5) (HT.out.below hb5) HG.out.tr HG.out.pairs (wideK_ok j) sVal12_ok (by omega) hrm)
           unfold sVal12 at HP
           have HB5 := hide hb5
           clear hb5 hrm))
        | (go_at_call 24; go_loud (
           refine HP.out.mono ?_; rintro e w6 ⟨rfl, hs6, ⟨rp', ds', ht6⟩, hb6⟩
           have HS6 := hide hs6
           have HT6 := hide ht6
           have HB6 := hide hb6
           clear hs6 ht6 hb6)))
      go_roundw
      case rel => exact ⟨j + 1, by omega, rfl, by go_num, HS6.out, ⟨_, _, _, _, HT6.out, (HG.out.put_wide hlt (by omega) sVal12_ok).1⟩, HB.out.trans ((HB5.out.mono HB.out.size).trans HB6.out)⟩
      case measure => simp [intOf]; omega
    · obtain rfl : j = k := by omega
      have HC := hide (st_commit hs ht hg (Good.empty (V := V8)) HHB.out (by decide) (by decide) (by have := VK.keys hg.tr.tw hg.tk; show T1.keys + 0 + 10 ≤ B; omega) (by have := hg.dirty_le; omega))
      have HB := hide hb
      clear hs ht hg hb
      go_wp2_with (go_at_call 26; go_loud (
         refine HC.out.mono ?_; rintro e w7 ⟨rfl, ⟨T', r', hs7, hg7, hd7, -, -, -⟩, hb7⟩
         have HS7 := hide hs7
         have HG7 := hide hg7
         have HB7 := hide hb7
         clear hs7 hg7 hb7))
      go_ret2
      exact ⟨b, x, T', r', rfl, HS7.out.more (by omega), HG7.out, hd7, HB.out.trans HB7.out⟩
end Go.Proofs.YtemondlgcmpbbaaGreatDoor

/- Walks: Cheap. -/
namespace Go.Proofs.YtemondlgcmpbbaaGreatDoor
open Go.RowKit

def sVal2 : Str := ⟨#[98, 97, 57, 56, 55, 54, 53, 52, 51, 50, 49, 48]⟩
theorem sVal2_ok : okVal sVal2 := Nat.le_refl 12
theorem Good.del_wide {k : Nat} {t : Tree} (h : Good (VK k) t) (i : Nat) : Good (VK k) (t.delete (wideK i)) ∧ tdirty (t.delete (wideK i)) ≤ tdirty t + 9 := h.delete8 VK.to8 (.inr rfl) _
theorem Nums.sm.writes_le {m : Nums} {K : Nat} (h : m.sm K) : 0 ≤ m.writes ∧ m.writes ≤ K := ⟨h.2.2.1, h.2.2.2.1⟩

set_option maxRecDepth 100000 in
set_option maxHeartbeats 4000000 in
theorem cheap_any (a n : Int) (w : World) (ha : I64 a) (hn : I64 n) :
    Calls Tryz.prog 3 #[.int .i64 a, .int .i64 n] w fun e w' => e = .returned (.bool true) ∧ Below w.heap.size w w' := by
  have HP1 := hide (pickk_fn n 120 w hn (by omega) (by omega))
  have hpl := pickN_lt n 120 (by omega)
  obtain ⟨p, hp⟩ : ∃ p, p = pickN n 120 := ⟨_, rfl⟩
  rw [← hp] at HP1 hpl
  have HPE := hide hp
  obtain ⟨k, hk⟩ : ∃ k : Nat, k = p + 1 := ⟨_, rfl⟩
  have hkp : (1 : Int) + (p : Int) = (k : Int) := by omega
  have hkw : IntKind.i64.wrap (k : Int) = (k : Int) := by rw [IntKind.wrap_i64]; omega
  have hk1 : 1 ≤ k := by omega
  have hk2 : k ≤ 120 := by omega
  have HF := hide (filled_any 400 k w (by omega) hk2 (by rw [show roomN 400 = 129 by decide]; omega) (by omega))
  rw [show ((400 : Nat) : Int) = 400 from rfl] at HF
  have HA := hide ha
  clear hp hk ha hn
  go_enter Tryz.func3, Tryz.ntmps3
  go_wp2_with (first
    | (go_at_call 18; go_loud (first
       | (refine HP2.out.mono ?_; rintro e w' ⟨rfl, rfl⟩)
       | (refine HP1.out.mono ?_; rintro e w' ⟨rfl, rfl⟩)))
    | (go_at_call 19; go_loud (
       refine HF.out.mono ?_; rintro e w1 ⟨b, x, T, r, rfl, hs, hg, hd, hb⟩
       have HP2 := hide (pickk_fn a 2147483648 w1 HA.out (by omega) (by omega))
       have HQ := hide (pickN_lt a 2147483648 (by omega))
       have HS := hide hs
       have HG := hide hg
       have HD := hide hd
       have HB := hide hb
       clear hs hg hd hb)))
  go_loopw [8, 9] (fun v i wr => ∃ j q : Nat, j ≤ 10 ∧ q < 2147483648 ∧ v = .int .i64 q ∧ i = .int .i64 j ∧ (∃ T r, Store w.heap.size wr (300 + 200 * j) b 400 x (2 + j) (.pointer none) T r ∧ Good (VK k) T ∧ tdirty T = 0) ∧ Below w.heap.size w wr) (fun _ i _ => 10 - (intOf i).toNat)
  case atStart => exact ⟨0, _, Nat.zero_le _, HQ.out, rfl, rfl, ⟨T, r, HS.out, HG.out, HD.out⟩, HB.out⟩
  case round =>
    obtain ⟨j, q0, hj, hq0, rfl, rfl, ⟨T, r, hs, hg, hd⟩, hb⟩ := hrel
    by_cases hlt : j < 10
    · have k2 : (j : Int) < 10 := by omega
      have HMX := hide (mixed_fn q0 wr hq0)
      have hql := mixedN_lt q0
      obtain ⟨q, hq⟩ : ∃ q, q = mixedN q0 := ⟨_, rfl⟩
      rw [← hq] at HMX hql
      clear hq
      have hkk : ¬ (k : Int) = 0 := by omega
      have d1 : (q : Int).tdiv 16 = (q : Int) / 16 := Int.tdiv_eq_ediv_of_nonneg (by omega)
      have d2 : IntKind.i64.wrap ((q : Int) / 16) = (q : Int) / 16 := by rw [IntKind.wrap_i64]; omega
      have d3 : ((q : Int) / 16).tmod k = (q : Int) / 16 % k := Int.tmod_eq_emod_of_nonneg (by omega)
      have hik : q / 16 % k < k := Nat.mod_lt _ (by omega)
      have hci : ((q / 16 % k : Nat) : Int) = (q : Int) / 16 % (k : Int) := by push_cast; rfl
      have d4 : IntKind.i64.wrap ((q : Int) / 16 % (k : Int)) = (q : Int) / 16 % (k : Int) := by rw [← hci, IntKind.wrap_i64]; omega
      have e1 : (q : Int).tdiv 4096 = (q : Int) / 4096 := Int.tdiv_eq_ediv_of_nonneg (by omega)
      have e2 : IntKind.i64.wrap ((q : Int) / 4096) = (q : Int) / 4096 := by rw [IntKind.wrap_i64]; omega
      have e3 : ((q : Int) / 4096).tmod 3 = (q : Int) / 4096 % 3 := Int.tmod_eq_emod_of_nonneg (by omega)
      have e4 : IntKind.i64.wrap ((q : Int) / 4096 % 3) = (q : Int) / 4096 % 3 := by rw [IntKind.wrap_i64]; omega
      have HW := hide (wide_fn (q / 16 % k) wr (by omega))
      rw [hci] at HW
      have HIK := hide hik
      have HS := hide hs
      have HG := hide hg
      have HD := hide hd
      have HB := hide hb
      have HQL := hide hql
      clear hs hg hd hb hik hci hql
      by_cases hq3 : (q : Int) / 4096 % 3 = 0
      all_goals by_cases hj0 : (j : Int) = 0
      all_goals (
        go_wp2_with (first
          | (go_at_call 20; go_loud (refine HMX.out.mono ?_; rintro e w' ⟨rfl, rfl⟩))
          | (go_at_call 21; go_loud (
             refine HW.out.mono ?_; rintro e w5 ⟨rfl, hb5⟩
             have HBG := hide (st_begin (HS.out.below hb5))
             have HB5 := hide hb5
             clear hb5))
          | (go_at_call 22; go_loud (
             refine HBG.out.mono ?_; rintro e w6 ⟨t, rfl, hs6, ht6, hb6⟩
             have HPT := hide (st_put (wideK (q / 16 % k)) sVal2 hs6 ht6 HG.out.tr HG.out.pairs (wideK_ok _) sVal2_ok (by omega) (.inr (by have := VK.keys HG.out.tr.tw HG.out.tk; rw [show roomN 400 = 129 by decide]; omega)))
             have HDL := hide (st_delete (wideK (q / 16 % k)) hs6 ht6 HG.out.tr HG.out.pairs (wideK_ok _) (by omega))
             unfold sVal2 at HPT
             have HB6 := hide hb6
             clear hs6 ht6 hb6))
          | (go_at_call 24; go_loud (
             refine HPT.out.mono ?_; rintro e w7 ⟨rfl, hs7, ⟨rp', ds', ht7⟩, hb7⟩
             have hgd := HG.out.put_wide HIK.out (by omega) sVal2_ok
             unfold sVal2 at hgd
             have hdd := hgd.2
             rw [HD.out] at hdd
             have HW7 := hide (writes_any b _ _ _ w7 hs7.disk.at_)
             have HC := hide (st_commit hs7 ht7 hgd.1 HG.out (by omega) (by omega) (by unfold edge; omega) (by have := VK.keys hgd.1.tr.tw hgd.1.tk; have := VK.keys HG.out.tr.tw HG.out.tk; omega) (by omega))
             have HSM := hide hs7.disk.num.writes_le
             have HB7 := hide hb7
             have HDD := hide hdd
             clear hs7 ht7 hb7 hgd hdd))
          | (go_at_call 23; go_loud (
             refine HDL.out.mono ?_; rintro e w7 ⟨rfl, hs7, ⟨rp', ds', ht7⟩, hb7⟩
             have hgd := HG.out.del_wide (q / 16 % k)
             have hdd := hgd.2
             rw [HD.out] at hdd
             have HW7 := hide (writes_any b _ _ _ w7 hs7.disk.at_)
             have HC := hide (st_commit hs7 ht7 hgd.1 HG.out (by omega) (by omega) (by unfold edge; omega) (by have := VK.keys hgd.1.tr.tw hgd.1.tk; have := VK.keys HG.out.tr.tw HG.out.tk; omega) (by omega))
             have HSM := hide hs7.disk.num.writes_le
             have HB7 := hide hb7
             have HDD := hide hdd
             clear hs7 ht7 hb7 hgd hdd))
          | (go_at_call 25; go_loud (first
             | (refine HW8.out.mono ?_; rintro e w' ⟨rfl, rfl⟩)
             | (refine HW7.out.mono ?_; rintro e w' ⟨rfl, rfl⟩)))
          | (go_at_call 26; go_loud (
             refine HC.out.mono ?_; rintro e w8 ⟨rfl, ⟨T', r', hs8, hg8, hd8, -, -, hwr⟩, hb8⟩
             have HW8 := hide (writes_any b _ _ _ w8 hs8.disk.at_)
             have hx1 : IntKind.i64.wrap (r'.m.writes - r.m.writes) = r'.m.writes - r.m.writes := by have := HSM.out; have := HDD.out; have : edge = 4611686018427387904 := rfl; rw [IntKind.wrap_i64]; omega
             have hx2 : ¬ (14 : Int) < r'.m.writes - r.m.writes := by have := HDD.out; omega
             have hx3 : ¬ r'.m.writes = r.m.writes := by omega
             have hx4 : (r'.m.writes == r.m.writes) = false := by simpa using hx3
             have hx5 : r'.m.writes - r.m.writes ≤ 14 := by omega
             have HS8 := hide hs8
             have HG8 := hide hg8
             have HD8 := hide hd8
             have HB8 := hide hb8
             clear hs8 hg8 hd8 hb8 hwr)))
        go_roundw
        all_goals first
          | exact ⟨j + 1, q, by omega, HQL.out, rfl, by go_num, ⟨T', r', by rw [show 300 + 200 * (j + 1) = 300 + 200 * j + 200 by omega, show 2 + (j + 1) = 2 + j + 1 by omega]; exact HS8.out, HG8.out, HD8.out⟩, HB.out.trans (((HB5.out.mono HB.out.size).trans HB6.out).trans (HB7.out.trans HB8.out))⟩
          | (refine ⟨⟨j + 1, q, by omega, HQL.out, rfl, by go_num, ⟨T', r', by rw [show 300 + 200 * (j + 1) = 300 + 200 * j + 200 by omega, show 2 + (j + 1) = 2 + j + 1 by omega]; exact HS8.out, HG8.out, HD8.out⟩, HB.out.trans (((HB5.out.mono HB.out.size).trans HB6.out).trans (HB7.out.trans HB8.out))⟩, ?_⟩; simp [intOf]; omega)
          | (simp [intOf]; omega)
          | trace_state)
    · have hnl : ¬ (j : Int) < 10 := by omega
      have HB := hide hb
      clear hs hg hd hb
      go_wp2
      go_ret
      exact ⟨rfl, HB.out⟩
end Go.Proofs.YtemondlgcmpbbaaGreatDoor
