/- Np By: merged. -/
import Derived.Test.YtemondlgcmpbbaaGreatDoorMC20
import Derived.Test.YtemondlgcmpbbaaGreatDoorMC03
import Derived.Test.YtemondlgcmpbbaaGreatDoorMC05
import Derived.Deep.AppendSrc
import Derived.Deep.DeepCutAuto
/- A node's block, in plain; append in place of bytes. -/
namespace Go.Proofs.YtemondlgcmpbbaaGreatDoor
open Go.RowKit

def by8 (n : Nat) : UInt8 := UInt8.ofNat (n % 256)
def sb (s : Str) : List UInt8 := s.data.toList
theorem sb_len (s : Str) : (sb s).length = s.size := by unfold sb; rw [Array.length_toList]; rfl
def pby (e : Str × Str) : List UInt8 := by8 e.1.size :: by8 e.2.size :: (sb e.1 ++ sb e.2)
def kby (k : Str) (blk gen : Nat) : List UInt8 := by8 k.size :: (sb k ++ by8 blk :: by8 (blk / 256) :: le4 gen)
/-- The head of a node's block, but for the sum. -/
def nhd (blk gen kind n : Nat) : List UInt8 := [0, 0, 0, 0] ++ le4 gen ++ [by8 blk, by8 (blk / 256), by8 kind, by8 n]
def nbody : (h : Nat) → Tr h → List UInt8
  | 0, n => nhd (Nd.blk n) (Nd.gen n) 1 (Nd.es n).length ++ (Nd.es n).flatMap pby
  | h + 1, n => nhd (Nd.blk n) (Nd.gen n) 2 (Nd.es n).length ++ (Nd.es n).flatMap fun e => kby e.1 (Tr.blk h e.2) (Tr.gen h e.2)
/-- A node's block. -/
def nby (h : Nat) (n : Tr h) : List UInt8 := sealN (pad 128 (nbody h n))

theorem pby_len (e : Str × Str) : (pby e).length = lsz e := by
  unfold pby lsz
  simp only [List.length_cons, List.length_append, sb_len]; omega
theorem kby_len (k : Str) (b g : Nat) : (kby k b g).length = 7 + k.size := by
  unfold kby
  simp only [List.length_cons, List.length_append, sb_len, le4_length]; omega
theorem pbys_len (es : List (Str × Str)) : (es.flatMap pby).length = lsum es := by
  induction es with
  | nil => rfl
  | cons e es ih => rw [List.flatMap_cons, List.length_append, ih, pby_len]; rfl
theorem kbys_len {K : Type} (f g : K → Nat) (es : List (Str × K)) : (es.flatMap fun e => kby e.1 (f e.2) (g e.2)).length = ksum es := by
  induction es with
  | nil => rfl
  | cons e es ih => rw [List.flatMap_cons, List.length_append, ih, kby_len]; rfl
theorem nhd_len (b g k n : Nat) : (nhd b g k n).length = 12 := rfl

theorem pad_app (l xs : List UInt8) (h : l.length + xs.length ≤ 128) : splB (pad 128 l) l.length xs = pad 128 (l ++ xs) := by
  unfold splB pad
  rw [List.take_left, List.drop_append, List.drop_eq_nil_of_le (by omega), List.nil_append, List.drop_replicate, List.length_append]
  congr 2
  omega
theorem pad_mid (l xs ys zs : List UInt8) (hx : ys.length = xs.length) : splB (pad 128 (l ++ xs ++ zs)) l.length ys = pad 128 (l ++ ys ++ zs) := by
  unfold splB pad
  simp only [List.append_assoc, List.take_left, List.length_append]
  congr 1
  rw [hx, List.drop_append, List.drop_eq_nil_of_le (by omega), List.nil_append, Nat.add_sub_cancel_left]
  rw [List.drop_left]

/-- Bytes behind what is there, in place: a slice's, or a string's. -/
theorem wp_append_b {P : Program} (w : World) {o : Oper} {a : Act} {K : Act → World → Prop} {Q : Exit → Act → World → Prop} (s x : Operand) (t tx : TypeId) (ho : o.op = .call { callee := .builtin .append, args := #[s, x], argTypes := #[t, tx] }) (e : TypeId) (i : TypeInfo) (ht : P.underlying t = some (.slice e)) (hi : P.info? e = some i) (hsz : i.size = 1)
    (g cap : Nat) (l xs : List UInt8) (hs : a.eval s = .slice (some ⟨g, 0, none⟩) l.length cap) (hg : Blk w g e (bc (pad 128 l)).toArray)
    (v : Value) (hx : a.eval x = v) (hsrc : Src P 1 tx v xs.length (bc xs) w) (hroom : l.length + xs.length ≤ cap) (hfit : l.length + xs.length ≤ 128)
    (h : ∀ w', Blk w' g e (bc (pad 128 (l ++ xs))).toArray → Only (· = g) w w' → w'.heap.size = w.heap.size → K (a.put o.dst (.slice (some ⟨g, 0, none⟩) (l ++ xs).length cap)) w') : o.wp P a w K Q := by
  have hlen : (pad 128 l).length = 128 := pad_length _ _ (by omega)
  have hst := run_storeCells_at P g l.length e (bc xs) 0 (bc (pad 128 l)).toArray w hg (by simp [bc_length, hlen]; omega) (bc_one xs)
  simp only [Nat.add_zero] at hst
  have hrun : (Builtin.append_ #[t, tx] o.type #[.slice (some ⟨g, 0, none⟩) l.length cap, v]).run P w = .ok (.slice (some ⟨g, 0, none⟩) (l.length + xs.length) cap) (w.setRow g (bc (pad 128 (l ++ xs))).toArray) := by
    have he : (bc (pad 128 l)).take l.length ++ bc xs ++ (bc (pad 128 l)).drop (l.length + (bc xs).length) = bc (pad 128 (l ++ xs)) := by
      rw [← pad_app _ _ hfit, ← bc_splB]
      rfl
    simp only [he] at hst
    have h1 := hsrc.cells
    rcases hsrc.kind with ⟨e', hk⟩ | hk <;> simp [Builtin.append_, run_underlying ht, run_underlying hk, sizeOf, typeInfo, hi, hsz, hsrc.len, hroom, h1, Addr.add_lit, hst]
  rw [← List.length_append] at hrun
  unfold Oper.wp
  simp [execOp, ho, resolve, invoke, builtin, hx, hs, hrun, Result.andThen]
  rw [← List.length_append]
  exact h _ (by have := setRow_heap w g _ (bc (pad 128 (l ++ xs))).toArray e _ hg; unfold Blk; simpa using this) ⟨rfl, rfl, rfl, by simp [World.setRow], fun k hk hne => setRow_other w g k _ hne⟩ (by simp [World.setRow])
theorem wpList_append_b {P : Program} (w : World) {ops : Array Oper} {rest : List Oper} {o : Oper} {a : Act} {Q : Exit → Act → World → Prop} (hgd : o.guard = none) (s x : Operand) (t tx : TypeId) (ho : o.op = .call { callee := .builtin .append, args := #[s, x], argTypes := #[t, tx] }) (e : TypeId) (i : TypeInfo) (ht : P.underlying t = some (.slice e)) (hi : P.info? e = some i) (hsz : i.size = 1)
    (g cap : Nat) (l xs : List UInt8) (hs : a.eval s = .slice (some ⟨g, 0, none⟩) l.length cap) (hg : Blk w g e (bc (pad 128 l)).toArray)
    (v : Value) (hx : a.eval x = v) (hsrc : Src P 1 tx v xs.length (bc xs) w) (hroom : l.length + xs.length ≤ cap) (hfit : l.length + xs.length ≤ 128)
    (h : ∀ w', Blk w' g e (bc (pad 128 (l ++ xs))).toArray → Only (· = g) w w' → w'.heap.size = w.heap.size → wpList P ops Q rest (a.put o.dst (.slice (some ⟨g, 0, none⟩) (l ++ xs).length cap)) w') : wpList P ops Q (o :: rest) a w :=
  wpList_plain hgd fun _ hK => wp_append_b w s x t tx ho e i ht hi hsz g cap l xs hs hg v hx hsrc hroom hfit fun w' h2 h3 h4 => hK _ _ (h w' h2 h3 h4)
theorem step_append_b {P : Program} (w : World) {ops : Array Oper} {o : Oper} {a : Act} {K : Act → World → Prop} {Q : Exit → Act → World → Prop} {E : Prop} (hgd : o.guard = none) (s x : Operand) (t tx : TypeId) (ho : o.op = .call { callee := .builtin .append, args := #[s, x], argTypes := #[t, tx] }) (e : TypeId) (i : TypeInfo) (ht : P.underlying t = some (.slice e)) (hi : P.info? e = some i) (hsz : i.size = 1)
    (g cap : Nat) (l xs : List UInt8) (hs : a.eval s = .slice (some ⟨g, 0, none⟩) l.length cap) (hg : Blk w g e (bc (pad 128 l)).toArray)
    (v : Value) (hx : a.eval x = v) (hsrc : Src P 1 tx v xs.length (bc xs) w) (hroom : l.length + xs.length ≤ cap) (hfit : l.length + xs.length ≤ 128)
    (h : ∀ w', Blk w' g e (bc (pad 128 (l ++ xs))).toArray → Only (· = g) w w' → w'.heap.size = w.heap.size → K (a.put o.dst (.slice (some ⟨g, 0, none⟩) (l ++ xs).length cap)) w') : if Region.wanted o (yielded ops a.tmps) = true then Oper.wp P o a w K Q else E := by
  have hw : Region.wanted o (yielded ops a.tmps) = true := by simp [Region.wanted, hgd]
  rw [if_pos hw]
  exact wp_append_b w s x t tx ho e i ht hi hsz g cap l xs hs hg v hx hsrc hroom hfit h
theorem src_str {P : Program} {tx : TypeId} (hk : P.underlying tx = some .string) (s : Str) (w : World) : Src P 1 tx (.string s) (sb s).length (bc (sb s)) w := by
  rw [sb_len]
  exact Src.ofString w hk s
theorem src_blk {P : Program} {tx e' : TypeId} (hk : P.underlying tx = some (.slice e')) {w : World} {g c : Nat} {T : TypeId} {xs : List UInt8} (hb : Blk w g T (bc xs).toArray) : Src P 1 tx (.slice (some ⟨g, 0, none⟩) xs.length c) xs.length (bc xs) w :=
  Src.ofSlice w hk _ _ _ _ (by rw [bc_length, Nat.mul_one]) (fun j u hu => by
    have : (⟨g, 0, none⟩ : Addr).add j = ⟨g, 0 + j, none⟩ := Addr.add_lit ..
    rw [this, Nat.zero_add, hb.cell]
    simpa using hu) (bc_one xs)
end Go.Proofs.YtemondlgcmpbbaaGreatDoor

/- Walks: node.Bytes, of a leaf. -/
namespace Go.Proofs.YtemondlgcmpbbaaGreatDoor
open Go.RowKit

def Z12 : List UInt8 := [0, 0, 0, 0, 0, 0, 0, 0, 0, 0, 0, 0]
theorem make12 (w : World) : (Instr.makeSlice 77 (.int .i64 12) (.int .i64 128)).run Tryz.prog w = .ok (.slice (some ⟨w.heap.size, 0, none⟩) 12 128) (w.alloc (.cells (bc (pad 128 Z12)).toArray 5)) := by kernel_rfl
theorem by8_toNat (n : Nat) : (by8 n).toNat = n % 256 := ofNat_toNat _ (Nat.mod_lt _ (by omega))

/-- A byte is written. -/
theorem Blk.byte {w : World} {g i n : Nat} {l r : List UInt8} {x : UInt8} (h : Blk w g 5 (bc (pad 128 (l ++ x :: r))).toArray) (hi : l.length = i) {v : Int} (hv : v = ((n % 256 : Nat) : Int)) : Blk (w.setCell ⟨g, i, none⟩ (.int .u8 v)) g 5 (bc (pad 128 (l ++ by8 n :: r))).toArray := by
  have := h.set_ i (.int .u8 v)
  have e : ((bc (pad 128 (l ++ x :: r))).toArray.setIfInBounds i (.int .u8 v)) = (bc (pad 128 (l ++ by8 n :: r))).toArray := by
    rw [List.setIfInBounds_toArray]
    congr 1
    unfold pad bc
    subst hi
    rw [hv, ← by8_toNat]
    simp
  rw [e] at this
  exact this

/-- The pairs ahead of the k-th are written. -/
def BLRel (es : List (Str × Str)) (hd : List UInt8) (g : Nat) (w : World) (s3 s : Value) (wr : World) : Prop :=
  ∃ k : Nat, k ≤ es.length ∧ s = .int .i64 k ∧ s3 = .slice (some ⟨g, 0, none⟩) (hd ++ (es.take k).flatMap pby).length 128 ∧ Blk wr g 5 (bc (pad 128 (hd ++ (es.take k).flatMap pby))).toArray ∧ Below g w wr
theorem bc_two (a b : Nat) (ha : a < 256) (hb : b < 256) : bc [by8 a, by8 b] = [.int .u8 a, .int .u8 b] := by
  unfold bc
  simp only [List.map_cons, List.map_nil, by8_toNat, Nat.mod_eq_of_lt ha, Nat.mod_eq_of_lt hb]
theorem pby_take (es : List (Str × Str)) (k : Nat) : ((es.take k).flatMap pby).length ≤ lsum es := by
  rw [← pbys_len, ← List.take_append_drop k es, List.flatMap_append, List.length_append, List.take_append_drop]
  omega
theorem pby_step {es : List (Str × Str)} {k : Nat} (h : k < es.length) : (es.take (k + 1)).flatMap pby = (es.take k).flatMap pby ++ pby es[k] := by
  rw [List.take_add_one, List.getElem?_eq_getElem h, List.flatMap_append]; simp

set_option maxRecDepth 100000 in
set_option maxHeartbeats 3200000 in
theorem bytes_leaf (es : List (Str × Str)) (b blk gen c1 c2 : Nat) (d : Bool) (A1 A2 : Option Addr) (w : World) (hn : NodeIs w b blk gen d A1 es.length c1 (pcells es) A2 0 c2 [])
    (hs : lsum es ≤ 116) (hg : gen < 4294967296) (_hb : blk < 65536) :
    Calls Tryz.prog 93 #[P b] w fun e w' => ∃ g, e = .returned (.slice (some ⟨g, 0, none⟩) 128 128) ∧ Blk w' g 5 (bc (sealN (pad 128 (nhd blk gen 1 es.length ++ es.flatMap pby)))).toArray ∧ w.heap.size ≤ g ∧ Below w.heap.size w w' := by
  have hmk := make12
  obtain ⟨i0, hi0, hz0⟩ := Option.map_eq_some_iff.1 size_u8
  have HI0 := hide hi0
  have HZ0 := hide hz0
  clear hi0 hz0
  have hlen : es.length ≤ 58 := by
    have : 2 * es.length ≤ lsum es := by
      clear hn hs
      induction es with
      | nil => exact Nat.zero_le _
      | cons e es ih => simp only [lsum, List.map_cons, List.sum_cons, List.length_cons, lsz] at *; omega
    omega
  have hal := Blk.new w 5 (bc (pad 128 Z12)).toArray
  have hb0 : Below w.heap.size w (w.alloc (.cells (bc (pad 128 Z12)).toArray 5)) := (Below.refl _ _).alloc (Nat.le_refl _) _
  have hblt : b < w.heap.size := Blk.lt hn.node
  have c1' : (w.alloc (.cells (bc (pad 128 Z12)).toArray 5)).cell? ⟨b, 1, none⟩ = some (.int .u32 gen) := (hb0.cell hblt).trans (cellOf hn.node 1 rfl)
  have e1 : splB (pad 128 Z12) 4 (le4 gen) = pad 128 ([0, 0, 0, 0] ++ le4 gen ++ [0, 0, 0, 0]) := pad_mid [0, 0, 0, 0] [0, 0, 0, 0] (le4 gen) [0, 0, 0, 0] rfl
  have LEAF := hide (fun W h => leaf_yes b blk gen c2 d (.slice A1 es.length c1) A2 W h)
  have HAL := hide hal
  have HB0 := hide hb0
  have HN := hide hn
  have E1 := hide e1
  have HP := hide (put32_any w.heap.size 4 8 124 (bc (pad 128 Z12)) gen _ hal.drew (by rw [bc_length]; decide) (by omega) (by omega) hg)
  have HC1 := hide (fun w1 (ho : Only (· = w.heap.size) (w.alloc (.cells (bc (pad 128 Z12)).toArray 5)).drew w1) => (show w1.cell? ⟨b, 1, none⟩ = some (.int .u32 gen) from (ho.cell (p := ⟨b, 1, none⟩) (by show b < _; simp; omega) (by show ¬ b = _; omega)).trans c1'))
  clear hal hb0 hn e1
  unfold P
  unfold P at LEAF
  go_enter Tryz.func93, Tryz.ntmps93
  go_wp2_with fail
  go_region_held3 (fun w' => w'.cell? ⟨b, 1, none⟩ = some (.int .u32 gen)) (first | go_keep | exact HC1.out _ ‹_›)
    ((go_at_call 134; ((with_reducible refine HP.out.mono ?_); rintro e w1 ⟨rfl, hb1, ho1⟩)))
  have hb1' : Blk w1 w.heap.size 5 (bc (pad 128 ([0, 0, 0, 0] ++ le4 gen ++ [0, 0, 0, 0]))).toArray := by rw [bc_splB, E1.out] at hb1; exact hb1
  have hbel1 : Below w.heap.size w w1 := HB0.out.drew.trans (ho1.to_below (by simp) fun x hx => by omega)
  have c0 : w1.cell? ⟨b, 0, none⟩ = some (.int .i64 blk) := (hbel1.cell hblt).trans (cellOf HN.out.node 0 rfl)
  have hne : ¬ b = w.heap.size := by omega
  have hne' : ¬ w.heap.size = b := by omega
  have y8 : w1.cell? ⟨w.heap.size, 8, none⟩ = some (.int .u8 0) := cellOf hb1' 8 rfl
  have y9 : w1.cell? ⟨w.heap.size, 9, none⟩ = some (.int .u8 0) := cellOf hb1' 9 rfl
  have z8 : w1.frozen? ⟨w.heap.size, 8, none⟩ = false := hb1'.frozen 8
  have z9 : w1.frozen? ⟨w.heap.size, 9, none⟩ = false := hb1'.frozen 9
  have HB1 := hide hb1'
  have HBEL1 := hide hbel1
  clear hb1 hb1' hbel1 ho1 HC1 HP hmk c1'
  go_upto_region 3 with fail
  go_cut [] (fun wx => Blk wx w.heap.size 5 (bc (pad 128 ([0, 0, 0, 0] ++ le4 gen ++ [by8 blk, by8 (blk / 256), 0, 0]))).toArray ∧ Below w.heap.size w wx)
  case first =>
    go_region_held3 (fun w' => w'.cell? ⟨b, 0, none⟩ = some (.int .i64 blk)) (go_keep) (fail)
    all_goals
      go_wp2
      go_meet
      have h8 := Blk.byte (l := [0, 0, 0, 0] ++ le4 gen) (x := 0) (r := [0, 0, 0]) (n := blk) HB1.out (i := 8) rfl (v := IntKind.u8.wrap blk) (by rw [IntKind.wrap_u8]; omega)
      have h9 := Blk.byte (l := [0, 0, 0, 0] ++ le4 gen ++ [by8 blk]) (x := 0) (r := [0, 0]) (n := blk / 256) h8 (i := 9) rfl (v := IntKind.u8.wrap ((blk : Int) / 256)) (by rw [IntKind.wrap_u8]; omega)
      exact ⟨h9.drew, ((HBEL1.out.setCell (p := ⟨w.heap.size, 8, none⟩) (Nat.le_refl _) _).setCell (p := ⟨w.heap.size, 9, none⟩) (Nat.le_refl _) _).drew⟩
  case rest =>
  obtain ⟨hb2, hbel2⟩ := hcut
  have hn2 := HN.out.keep (Keep.of_below hbel2)
  have c3 : wc.cell? ⟨b, 3, none⟩ = some (.slice A1 es.length c1) := cellOf hn2.node 3 rfl
  have y10 : wc.cell? ⟨w.heap.size, 10, none⟩ = some (.int .u8 0) := cellOf hb2 10 rfl
  have y11 : wc.cell? ⟨w.heap.size, 11, none⟩ = some (.int .u8 0) := cellOf hb2 11 rfl
  have z10 : wc.frozen? ⟨w.heap.size, 10, none⟩ = false := hb2.frozen 10
  have z11 : wc.frozen? ⟨w.heap.size, 11, none⟩ = false := hb2.frozen 11
  have HB2 := hide hb2
  have HBEL2 := hide hbel2
  have HN2 := hide hn2
  clear hb2 hbel2 hn2 c0 y8 y9 z8 z9
  go_wp2_with (go_at_call 81; refine (LEAF.out _ HN2.out.node).mono ?_; rintro e w' ⟨rfl, rfl⟩)
  go_loopw [3, 51] (fun s3 s wr => BLRel es (nhd blk gen 1 es.length) w.heap.size w s3 s wr) (fun _ s _ => es.length - (intOf s).toNat)
  case atStart =>
    have h10 := Blk.byte (l := [0, 0, 0, 0] ++ le4 gen ++ [by8 blk, by8 (blk / 256)]) (x := 0) (r := [0]) (n := 1) HB2.out (i := 10) rfl (v := 1) rfl
    have h11 := Blk.byte (l := [0, 0, 0, 0] ++ le4 gen ++ [by8 blk, by8 (blk / 256), by8 1]) (x := 0) (r := []) (n := es.length) h10 (i := 11) rfl (v := es.length) (by omega)
    exact ⟨0, Nat.zero_le _, rfl, rfl, (by rw [List.take_zero, List.flatMap_nil, List.append_nil]; exact h11), (HBEL2.out.setCell (p := ⟨w.heap.size, 10, none⟩) (Nat.le_refl _) _).setCell (p := ⟨w.heap.size, 11, none⟩) (Nat.le_refl _) _⟩
  case round =>
    obtain ⟨k, hk, rfl, rfl, hbr, hbe⟩ := hrel
    by_cases hlt : k < es.length
    · obtain ⟨g, o, u, v, rfl, hu, hv, q1, q2, hgl⟩ := HN.out.ps.cells_at hbe hlt
      have hpe := pcells_at es k hlt
      have e1 := hu.symm.trans hpe.1
      have e2 := hv.symm.trans hpe.2
      injection e1 with e1
      injection e2 with e2
      subst e1; subst e2
      obtain ⟨x, hx⟩ : ∃ x, x = es[k] := ⟨_, rfl⟩
      rw [← hx] at q1 q2
      have hst := pby_step hlt
      rw [← hx] at hst
      have hle := pby_take es (k + 1)
      rw [hst, List.length_append, pby_len] at hle
      have hcc : ∃ c1', es.length ≤ c1 ∧ c1 ≤ maxLen ∧ c1' = c1 := by
        obtain ⟨_, _, _, hv, e1, e2, _⟩ := HN.out.ps
        injection hv with _ _ e3
        subst e3
        exact ⟨_, e1, e2, rfl⟩
      obtain ⟨_, hc1, hc2, -⟩ := hcc
      unfold maxLen at hc2
      have hsz : x.1.size + x.2.size ≤ 116 := by unfold lsz at hle; omega
      have k0 : (0 : Int) ≤ (k : Int) := by omega
      have k1 : (k : Int) < (es.length : Int) := by omega
      have HST := hide hst
      have HLE := hide hle
      have HX := hide hx
      have HBR := hide hbr
      have HBE := hide hbe
      clear hu hv hpe hst hle hx hbr hbe
      obtain ⟨L, hL⟩ : ∃ L, L = nhd blk gen 1 es.length ++ (es.take k).flatMap pby := ⟨_, rfl⟩
      rw [← hL] at HBR ⊢
      have hLl : L.length + lsz x ≤ 128 := by have := HLE.out; rw [hL, List.length_append, nhd_len]; omega
      have hLs : L.length + (2 + x.1.size + x.2.size) ≤ 128 := hLl
      have HL := hide hL
      clear hL hLl
      have hp1 : Blk ((wr.alloc (.cells #[.string x.1, .string x.2] 68)).alloc (.cells #[.int .u8 x.1.size, .int .u8 x.2.size] 5)) wr.heap.size 68 #[.string x.1, .string x.2] := (Blk.new _ _ _).alloc _
      have hp2 : Blk ((wr.alloc (.cells #[.string x.1, .string x.2] 68)).alloc (.cells #[.int .u8 x.1.size, .int .u8 x.2.size] 5)) (wr.heap.size + 1) 5 (bc [by8 x.1.size, by8 x.2.size]).toArray := by
        rw [bc_two _ _ (by omega) (by omega)]
        exact Blk.new2 _ _ _ _
      have hp3 := (HBR.out.alloc (.cells #[.string x.1, .string x.2] 68)).alloc (.cells #[.int .u8 x.1.size, .int .u8 x.2.size] 5)
      have hgl2 : w.heap.size < wr.heap.size := HBR.out.lt
      have HP1 := hide hp1
      have HP2 := hide hp2
      have HP3 := hide hp3
      clear hp1 hp2 hp3
      go_wp2_with (at_builtin; refine wpList_append_b _ rfl _ _ _ _ rfl 5 i0 Tryz.underlying77 HI0.out HZ0.out w.heap.size 128 L [by8 x.1.size, by8 x.2.size] rfl HP3.out _ rfl (src_blk Tryz.underlying77 HP2.out) (by simp only [List.length_cons, List.length_nil]; omega) (by simp only [List.length_cons, List.length_nil]; omega) ?_; intro w1 hb1 ho1 hs1)
      have hp1' := ho1.blk HP1.out (by omega)
      have q1' : w1.cell? ⟨wr.heap.size, 0, none⟩ = some (.string x.1) := cellOf hp1' 0 rfl
      have q2' : w1.cell? ⟨wr.heap.size, 1, none⟩ = some (.string x.2) := cellOf hp1' 1 rfl
      have hlt1 : wr.heap.size < w1.heap.size := hp1'.lt
      have hbw1 : Below w.heap.size w w1 := ((HBE.out.alloc HBE.out.size _).alloc (by simp; have := HBE.out.size; omega) _).trans (ho1.to_below (by simp; have := HBE.out.size; omega) fun y hy => by omega)
      obtain ⟨L2, hL2⟩ : ∃ L2, L2 = L ++ [by8 x.1.size, by8 x.2.size] := ⟨_, rfl⟩
      have hL2l : L2.length = L.length + 2 := by rw [hL2]; simp
      rw [← hL2] at hb1
      rw [← hL2l]
      have hx1 := sb_len x.1
      have hx2 := sb_len x.2
      have r1 : L2.length + (sb x.1).length ≤ 128 := by omega
      have r2 : ∀ L3 : List UInt8, L3 = L2 ++ sb x.1 → L3.length + (sb x.2).length ≤ 128 := by rintro L3 rfl; rw [List.length_append]; omega
      have R1 := hide r1
      have R2 := hide r2
      have HL2 := hide hL2
      have HB3 := hide hb1.drew
      have HBW1 := hide hbw1
      clear hL2 hL2l hx1 hx2 hb1 ho1 hp1' r1 r2 hbw1 hs1
      go_region_held3 (fun w' => w'.cell? ⟨wr.heap.size, 0, none⟩ = some (.string x.1) ∧ w'.cell? ⟨wr.heap.size, 1, none⟩ = some (.string x.2)) (first | go_keep | exact ⟨‹_›, ‹_›⟩)
        (first
          | ((refine step_append_b _ rfl _ _ _ _ (by rfl) 5 i0 Tryz.underlying77 HI0.out HZ0.out w.heap.size 128 L2 (sb x.1) (by rfl) HB3.out _ (by rfl) (src_str Tryz.underlying9 x.1 _) R1.out R1.out ?_); intro w2 hb2 ho2 hs2
             (have t1 : w2.cell? ⟨wr.heap.size, 0, none⟩ = some (.string x.1) := (ho2.cell (p := ⟨wr.heap.size, 0, none⟩) hlt1 (by show ¬ wr.heap.size = w.heap.size; omega)).trans q1')
             (have t2 : w2.cell? ⟨wr.heap.size, 1, none⟩ = some (.string x.2) := (ho2.cell (p := ⟨wr.heap.size, 1, none⟩) hlt1 (by show ¬ wr.heap.size = w.heap.size; omega)).trans q2')
             (obtain ⟨L3, hL3⟩ : ∃ L3, L3 = L2 ++ sb x.1 := ⟨_, rfl⟩)
             rw [← hL3] at hb2
             rw [← hL3]
             (have r2 := R2.out L3 hL3)
             (have hlt2 : wr.heap.size < w2.heap.size := Nat.lt_of_lt_of_le hlt1 ho2.size)
             (have HB4 := hide hb2)
             (have HO2 := hide ho2)
             (have HL3 := hide hL3)
             (clear hb2 ho2 hs2 hL3))
          | ((refine step_append_b _ rfl _ _ _ _ (by rfl) 5 i0 Tryz.underlying77 HI0.out HZ0.out w.heap.size 128 L3 (sb x.2) (by rfl) HB4.out _ (by rfl) (src_str Tryz.underlying9 x.2 _) r2 r2 ?_); intro w3 hb3 ho3 hs3
             (have t3 : w3.cell? ⟨wr.heap.size, 0, none⟩ = some (.string x.1) := (ho3.cell (p := ⟨wr.heap.size, 0, none⟩) hlt2 (by show ¬ wr.heap.size = w.heap.size; omega)).trans t1)
             (have t4 : w3.cell? ⟨wr.heap.size, 1, none⟩ = some (.string x.2) := (ho3.cell (p := ⟨wr.heap.size, 1, none⟩) hlt2 (by show ¬ wr.heap.size = w.heap.size; omega)).trans t2)))
      go_wp2
      have hfin : nhd blk gen 1 es.length ++ (es.take (k + 1)).flatMap pby = L3 ++ sb x.2 := by
        rw [HST.out, HL3.out, HL2.out, HL.out]
        unfold pby
        simp
      go_roundw
      case rel =>
        refine ⟨k + 1, by omega, by go_num, ?_, ?_, ?_⟩
        · rw [hfin, List.length_append]
        · rw [hfin]; exact hb3
        · have hz := HBW1.out.size
          exact (HBW1.out.drew.trans (HO2.out.to_below (show w.heap.size ≤ w1.heap.size from hz) fun y hy => by omega)).trans (ho3.to_below (Nat.le_trans hz HO2.out.size) fun y hy => by omega)
      case measure => simp [intOf]; omega
    · have k1 : ¬ (k : Int) < (es.length : Int) := by omega
      obtain rfl : k = es.length := by omega
      have hle := pby_take es es.length
      rw [List.take_length] at hbr hle ⊢
      obtain ⟨L, hL⟩ : ∃ L, L = nhd blk gen 1 es.length ++ es.flatMap pby := ⟨_, rfl⟩
      have hLl : L.length ≤ 128 := by rw [hL, List.length_append, nhd_len]; omega
      rw [← hL] at hbr ⊢
      have hLi : (L.length : Int) ≤ 128 := by omega
      have hpl : (pad 128 L).length = 128 := pad_length _ _ hLl
      have HS := hide (fun W hb => seal_any w.heap.size 128 (pad 128 L) W hb hpl (by omega) (by omega))
      have HBR := hide hbr
      have HBE := hide hbe
      have HLL := hide hL
      clear hbr hbe hL hle hpl
      go_wp2_with (go_at_call 135; refine (HS.out _ HBR.out).mono ?_; rintro e w5 ⟨rfl, hb5, ho5⟩)
      go_ret
      exact ⟨_, rfl, by rw [HLL.out] at hb5; exact hb5, Nat.le_refl _, HBE.out.trans (ho5.to_below HBE.out.size fun y hy => by omega)⟩
end Go.Proofs.YtemondlgcmpbbaaGreatDoor
