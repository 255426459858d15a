/- Rep Wd: merged. -/
import Derived.Test.YtemondlgcmpbbaaGreatDoorMC11
import Derived.Test.YtemondlgcmpbbaaGreatDoorMC15
/- How nodes lie in memory: a slice of pairs or of children; a node; a tree (Rep), with the blocks of its dirty nodes, children first. -/
namespace Go.Proofs.YtemondlgcmpbbaaGreatDoor
open Go.RowKit

/-- A slice value whose n elements (two cells each, in a block of element type T) are the cells xs. -/
def SlC (w : World) (T : TypeId) (v : Value) (n : Nat) (xs : List Value) : Prop :=
  xs.length = n * 2 ∧ ∃ A c, v = .slice A n c ∧ n ≤ c ∧ c ≤ maxLen ∧ (A = none → c = 0) ∧ (0 < n → ∃ g o cur, A = some ⟨g, o, none⟩ ∧ Blk w g T cur ∧ ∀ j u, xs[j]? = some u → cur[o + j]? = some u)

theorem SlC.of_own {w : World} {base : Nat} {T : TypeId} {v : Value} {n : Nat} {xs : List Value} (h : w.ownsRow base T 2 v n xs) : SlC w T v n xs := by
  obtain ⟨hl, hd⟩ := h
  refine ⟨hl, ?_⟩
  rcases hd with ⟨rfl, rfl⟩ | ⟨g, cap, cur, rfl, _, hg, hnc, hcm, hcs, hx⟩
  · exact ⟨none, 0, rfl, Nat.le_refl _, Nat.zero_le _, fun _ => rfl, fun h => absurd h (by omega)⟩
  · refine ⟨_, cap, rfl, hnc, hcm, (fun h => by cases h), fun _ => ⟨g, 0, cur, rfl, hg, fun j u hu => ?_⟩⟩
    rw [← hx, List.getElem?_take] at hu
    split at hu
    · rw [Nat.zero_add]; simpa using hu
    · cases hu

theorem SlC.reads {w : World} {T : TypeId} {A : Option Addr} {c n : Nat} {xs : List Value} (h : SlC w T (.slice A n c) n xs) : Reads w w.heap.size 2 A n xs := by
  obtain ⟨hl, A', c', hv, _, _, _, hp⟩ := h
  injection hv with h1 _ h3
  subst h1
  refine ⟨hl, fun hn => ?_⟩
  obtain ⟨g, o, cur, rfl, hg, hx⟩ := hp hn
  exact ⟨_, rfl, hg.lt, fun j u hu => by rw [Addr.add_lit, hg.cell]; exact hx j u hu⟩
theorem SlC.nil0 {w : World} {T : TypeId} {A : Option Addr} {c n : Nat} {xs : List Value} (h : SlC w T (.slice A n c) n xs) : A = none → n = 0 := by
  obtain ⟨_, A', c', hv, h1, _, h3, _⟩ := h
  injection hv with h4 _ h5
  subst h4; subst h5
  intro e
  have := h3 e
  omega
theorem SlC.form {w : World} {T : TypeId} {v : Value} {n : Nat} {xs : List Value} (h : SlC w T v n xs) : ∃ A c, v = .slice A n c ∧ n ≤ c ∧ c ≤ maxLen := by
  obtain ⟨_, A, c, hv, h1, h2, _, _⟩ := h
  exact ⟨A, c, hv, h1, h2⟩

theorem SlC.keep {w w' : World} {T : TypeId} {v : Value} {n : Nat} {xs : List Value} (h : SlC w T v n xs) (hT : Imm T) (hk : Keep w w') : SlC w' T v n xs := by
  obtain ⟨hl, A, c, hv, h1, h2, h3, hp⟩ := h
  refine ⟨hl, A, c, hv, h1, h2, h3, fun hn => ?_⟩
  obtain ⟨g, o, cur, hA, hg, hx⟩ := hp hn
  exact ⟨g, o, cur, hA, (hk.block g _ _ _ hg hT).trans hg, hx⟩

theorem immN : Imm 137 := .inl rfl
theorem immP : Imm 68 := .inr (.inl rfl)
theorem immK : Imm 139 := .inr (.inr rfl)

/-- A pointer to the head of a block. -/
abbrev P (b : Nat) : Value := .pointer (some ⟨b, 0, none⟩)

def pcells (es : List (Str × Str)) : List Value := es.flatMap fun e => [.string e.1, .string e.2]
def kcells {K : Type} : List (Str × K) → List Nat → List Value
  | e :: es, b :: bs => .string e.1 :: P b :: kcells es bs
  | _, _ => []

/-- A node's block. -/
def NodeAt (w : World) (b blk gen : Nat) (dirty : Bool) (pv kv : Value) : Prop := Blk w b 137 #[.int .i64 blk, .int .u32 gen, .bool dirty, pv, kv]

def RepL {K : Type} (R : K → Nat → List Nat → Prop) : List (Str × K) → List Nat → List (List Nat) → Prop
  | [], [], [] => True
  | e :: es, b :: bs, d :: dss => R e.2 b d ∧ RepL R es bs dss
  | _, _, _ => False

def dirtyAt (dirty : Bool) (b : Nat) : List Nat := if dirty then [b] else []

/-- The tree t of height h lies at block b; ds: its dirty nodes' blocks, children first. -/
def Rep (w : World) : (h : Nat) → Tr h → Nat → List Nat → Prop
  | 0, t, b, ds => ∃ pv kv, NodeAt w b (Nd.blk t) (Nd.gen t) (Nd.dirty t) pv kv ∧ SlC w 68 pv (Nd.es t).length (pcells (Nd.es t)) ∧ SlC w 139 kv 0 [] ∧ ds = dirtyAt (Nd.dirty t) b
  | h + 1, t, b, ds => ∃ pv kv bs dss, NodeAt w b (Nd.blk t) (Nd.gen t) (Nd.dirty t) pv kv ∧ SlC w 68 pv 0 [] ∧ SlC w 139 kv (Nd.es t).length (kcells (Nd.es t) bs) ∧ RepL (Rep w h) (Nd.es t) bs dss ∧ ds = dss.flatten ++ dirtyAt (Nd.dirty t) b

theorem RepL.mono {K : Type} {R R' : K → Nat → List Nat → Prop} (hR : ∀ k b d, R k b d → R' k b d) : ∀ {es : List (Str × K)} {bs : List Nat} {dss : List (List Nat)}, RepL R es bs dss → RepL R' es bs dss
  | [], [], [], h => h
  | _ :: _, _ :: _, _ :: _, h => ⟨hR _ _ _ h.1, RepL.mono hR h.2⟩
  | [], [], _ :: _, h => h.elim
  | [], _ :: _, _, h => h.elim
  | _ :: _, [], _, h => h.elim
  | _ :: _, _ :: _, [], h => h.elim

theorem Rep.keep {w w' : World} (hk : Keep w w') : ∀ {h : Nat} {t : Tr h} {b : Nat} {ds : List Nat}, Rep w h t b ds → Rep w' h t b ds
  | 0, _, _, _, ⟨pv, kv, h1, h2, h3, h4⟩ => ⟨pv, kv, (hk.block _ _ _ _ h1 immN).trans h1, h2.keep immP hk, h3.keep immK hk, h4⟩
  | _ + 1, _, _, _, ⟨pv, kv, bs, dss, h1, h2, h3, h4, h5⟩ => ⟨pv, kv, bs, dss, (hk.block _ _ _ _ h1 immN).trans h1, h2.keep immP hk, h3.keep immK hk, h4.mono fun _ _ _ hr => Rep.keep hk hr, h5⟩

theorem RepL.len {K : Type} {R : K → Nat → List Nat → Prop} : ∀ {es : List (Str × K)} {bs : List Nat} {dss : List (List Nat)}, RepL R es bs dss → bs.length = es.length ∧ dss.length = es.length
  | [], [], [], _ => ⟨rfl, rfl⟩
  | _ :: _, _ :: _, _ :: _, h => ⟨by simp [(RepL.len h.2).1], by simp [(RepL.len h.2).2]⟩
  | [], [], _ :: _, h => h.elim
  | [], _ :: _, _, h => h.elim
  | _ :: _, [], _, h => h.elim
  | _ :: _, _ :: _, [], h => h.elim

theorem pcells_length (es : List (Str × Str)) : (pcells es).length = es.length * 2 := by
  induction es with
  | nil => rfl
  | cons e es ih => simp only [pcells, List.flatMap_cons, List.length_append, List.length_cons, List.length_nil] at *; omega
theorem kcells_length {K : Type} : ∀ (es : List (Str × K)) (bs : List Nat), bs.length = es.length → (kcells es bs).length = es.length * 2
  | [], [], _ => rfl
  | _ :: es, _ :: bs, h => by
    have := kcells_length es bs (by simpa using h)
    simp only [kcells, List.length_cons]; omega
  | [], _ :: _, h => by simp at h
  | _ :: _, [], h => by simp at h
theorem pcells_one (es : List (Str × Str)) : ∀ u ∈ pcells es, u.oneCell' = true := by
  intro u hu
  simp only [pcells, List.mem_flatMap, List.mem_cons, List.not_mem_nil, or_false] at hu
  obtain ⟨e, _, rfl | rfl⟩ := hu <;> rfl
theorem kcells_one {K : Type} : ∀ (es : List (Str × K)) (bs : List Nat), ∀ u ∈ kcells es bs, u.oneCell' = true
  | [], _, _, h => by simp [kcells] at h
  | _ :: _, [], _, h => by simp [kcells] at h
  | _ :: es, _ :: bs, u, h => by
    simp only [kcells, List.mem_cons] at h
    rcases h with rfl | rfl | h
    · rfl
    · rfl
    · exact kcells_one es bs u h
theorem pcells_at : ∀ (es : List (Str × Str)) (i : Nat) (h : i < es.length), (pcells es)[i * 2]? = some (.string es[i].1) ∧ (pcells es)[i * 2 + 1]? = some (.string es[i].2)
  | [], _, h => by simp at h
  | e :: es, 0, _ => ⟨rfl, rfl⟩
  | e :: es, i + 1, h => by
    have := pcells_at es i (by simpa using h)
    simp only [pcells, List.flatMap_cons, List.getElem_cons_succ, show (i + 1) * 2 = i * 2 + 2 by omega] at *
    exact this
theorem kcells_at {K : Type} : ∀ (es : List (Str × K)) (bs : List Nat) (i : Nat) (h : i < es.length) (hb : i < bs.length), (kcells es bs)[i * 2]? = some (.string es[i].1) ∧ (kcells es bs)[i * 2 + 1]? = some (P bs[i])
  | [], _, _, h, _ => by simp at h
  | _ :: _, [], _, _, hb => by simp at hb
  | e :: es, b :: bs, 0, _, _ => ⟨rfl, rfl⟩
  | e :: es, b :: bs, i + 1, h, hb => by
    have := kcells_at es bs i (by simpa using h) (by simpa using hb)
    simp only [kcells, List.getElem_cons_succ, show (i + 1) * 2 = i * 2 + 2 by omega, List.getElem?_cons_succ] at *
    exact this

theorem own_form {w : World} {base : Nat} {T : TypeId} {v : Value} {n : Nat} {xs : List Value} (h : w.ownsRow base T 2 v n xs) : ∃ A c, v = .slice A n c ∧ c ≤ maxLen ∧ w.ownsRow base T 2 (.slice A n c) n xs := by
  obtain ⟨_, A, c, rfl, _, hc, _⟩ := SlC.of_own h
  exact ⟨A, c, rfl, hc, h⟩

theorem clone_pair' (A : Option Addr) (n c : Nat) (xs : List Value) (w : World) (hr : Reads w w.heap.size 2 A n xs) (h1 : ∀ u ∈ xs, u.oneCell' = true) (hn : n ≤ 1000) (hA : A = none → n = 0) :
    Calls Tryz.prog 128 #[.slice A n c] w fun e w' => ∃ A' c', e = .returned (.slice A' n c') ∧ c' ≤ maxLen ∧ w'.ownsRow w.heap.size 68 2 (.slice A' n c') n xs ∧ Below w.heap.size w w' :=
  (clone_pair A n c xs w hr h1 hn hA).mono fun _ _ ⟨_, he, ho, hb⟩ => by
    obtain ⟨A', c', rfl, hc, ho'⟩ := own_form ho
    exact ⟨A', c', he, hc, ho', hb⟩

theorem clone_kid' (A : Option Addr) (n c : Nat) (xs : List Value) (w : World) (hr : Reads w w.heap.size 2 A n xs) (h1 : ∀ u ∈ xs, u.oneCell' = true) (hn : n ≤ 1000) (hA : A = none → n = 0) :
    Calls Tryz.prog 131 #[.slice A n c] w fun e w' => ∃ A' c', e = .returned (.slice A' n c') ∧ c' ≤ maxLen ∧ w'.ownsRow w.heap.size 139 2 (.slice A' n c') n xs ∧ Below w.heap.size w w' :=
  (clone_kid A n c xs w hr h1 hn hA).mono fun _ _ ⟨_, he, ho, hb⟩ => by
    obtain ⟨A', c', rfl, hc, ho'⟩ := own_form ho
    exact ⟨A', c', he, hc, ho', hb⟩

theorem own_below {w w' : World} {base s n : Nat} {T : TypeId} {v : Value} {xs : List Value} (h : w.ownsRow base T s v n xs) (hb : Below w.heap.size w w') : w'.ownsRow base T s v n xs :=
  h.kept (row := none) ⟨hb.os, hb.tape, hb.output, hb.size, fun k hk _ => hb.block k hk⟩ (by cases v.ownBlock <;> simp)
theorem own_base {w : World} {base base' s n : Nat} {T : TypeId} {v : Value} {xs : List Value} (h : w.ownsRow base T s v n xs) (hb : base' ≤ base) : w.ownsRow base' T s v n xs := by
  refine ⟨h.1, h.2.imp id ?_⟩
  rintro ⟨g, cap, cur, h1, h2, h3⟩
  exact ⟨g, cap, cur, h1, Nat.le_trans hb h2, h3⟩

/-- A node whatever it is: what its two slices read as. -/
structure NodeIs (w : World) (b blk gen : Nat) (dirty : Bool) (A1 : Option Addr) (n1 c1 : Nat) (xs : List Value) (A2 : Option Addr) (n2 c2 : Nat) (ys : List Value) : Prop where
  node : NodeAt w b blk gen dirty (.slice A1 n1 c1) (.slice A2 n2 c2)
  ps : SlC w 68 (.slice A1 n1 c1) n1 xs
  ks : SlC w 139 (.slice A2 n2 c2) n2 ys

set_option maxRecDepth 100000 in
/-- Node.Copy. -/
theorem copy_any (b blk gen : Nat) (dirty : Bool) (A1 : Option Addr) (n1 c1 : Nat) (xs : List Value) (A2 : Option Addr) (n2 c2 : Nat) (ys : List Value) (w : World) (h : NodeIs w b blk gen dirty A1 n1 c1 xs A2 n2 c2 ys)
    (hx : ∀ u ∈ xs, u.oneCell' = true) (hy : ∀ u ∈ ys, u.oneCell' = true) (hn1 : n1 ≤ 1000) (hn2 : n2 ≤ 1000) :
    Calls Tryz.prog 118 #[P b] w fun e w' => ∃ b' v1 v2, e = .returned (P b') ∧ Blk w' b' 137 #[.int .i64 0, .int .u32 0, .bool true, v1, v2] ∧ w'.ownsRow w.heap.size 68 2 v1 n1 xs ∧ w'.ownsRow w.heap.size 139 2 v2 n2 ys ∧ w.heap.size ≤ b' ∧ Below w.heap.size w w' := by
  obtain ⟨hn, hp, hk⟩ := h
  have c3 : w.cell? ⟨b, 3, none⟩ = some (.slice A1 n1 c1) := by rw [Blk.cell hn]; rfl
  have c4 : w.cell? ⟨b, 4, none⟩ = some (.slice A2 n2 c2) := by rw [Blk.cell hn]; rfl
  have hblt := Blk.lt hn
  have R1 := hide hp.reads
  have R2 := hide hk.reads
  have N1 := hide hp.nil0
  have N2 := hide hk.nil0
  have HX := hide hx
  have HY := hide hy
  clear hn hp hk hx hy
  unfold P
  go_enter Tryz.func118, Tryz.ntmps118
  go_wp2_with fail
  go_region_held3 (fun w' => w'.cell? ⟨b, 3, none⟩ = some (.slice A1 n1 c1) ∧ w'.cell? ⟨b, 4, none⟩ = some (.slice A2 n2 c2)) (first | go_keep | (refine ⟨?_, ?_⟩ <;> (first | (rw [hb1.cell hblt]; assumption) | (rw [hb2.cell (by have := hb1.size; simp at this ⊢; omega)]; rw [hb1.cell hblt]; assumption))))
    (first | (go_at_call 128; refine (clone_pair' A1 n1 c1 xs _ R1.out.drew HX.out hn1 N1.out).mono ?_; rintro e w1 ⟨A1', c1', rfl, hm1, ho1, hb1⟩) | (go_at_call 131; refine (clone_kid' A2 n2 c2 ys _ ((R2.out.drew.below hb1).more hb1.size) HY.out hn2 N2.out).mono ?_; rintro e w2 ⟨A2', c2', rfl, hm2, ho2, hb2⟩))
  go_wp2
  go_ret
  have hs1 : w.heap.size ≤ w1.heap.size := hb1.size
  have hs2 : w1.heap.size ≤ w2.heap.size := hb2.size
  have hb1' : Below w.heap.size w w1 := (Below.refl w.heap.size w).drew.trans hb1
  have hb2' : Below w.heap.size w w2 := hb1'.trans (hb2.mono hs1)
  exact ⟨_, _, _, rfl, Blk.new _ _ _, (own_below ho1 hb2).alloc _, (own_base ho2 hs1).alloc _, by omega, hb2'.alloc (by omega) _⟩

end Go.Proofs.YtemondlgcmpbbaaGreatDoor

/- Walks: how great a node is: pairSize, kidSize, sum, Leaf, Size, Full, Thin. -/
namespace Go.Proofs.YtemondlgcmpbbaaGreatDoor
open Go.RowKit

theorem ret_int {k : IntKind} {a b : Int} (h : a = b) : Ending.returned (.int k a) = .returned (.int k b) := by rw [h]
theorem ret_bool {a b : Bool} (h : a = b) : Ending.returned (.bool a) = .returned (.bool b) := by rw [h]

theorem pairSize_any (k v : Str) (z : Nat) (w : World) (h : k.size + v.size ≤ 100000) (hz : z = lsz (k, v)) :
    Calls Tryz.prog 127 #[.agg #[.string k, .string v]] w fun e w' => e = .returned (.int .i64 z) ∧ Below w.heap.size w w' := by
  have HZ := hide hz
  clear hz
  go_enter Tryz.func127, Tryz.ntmps127
  go_wp2
  go_ret
  refine ⟨ret_int ?_, (Below.refl _ _).alloc (Nat.le_refl _) _⟩
  rw [HZ.out]
  simp only [lsz]
  omega

theorem kidSize_any (k : Str) (b : Nat) (z : Nat) (w : World) (h : k.size ≤ 100000) (hz : z = 7 + k.size) :
    Calls Tryz.prog 130 #[.agg #[.string k, P b]] w fun e w' => e = .returned (.int .i64 z) ∧ Below w.heap.size w w' := by
  unfold P
  have HZ := hide hz
  clear hz
  go_enter Tryz.func130, Tryz.ntmps130
  go_wp2
  go_ret
  exact ⟨ret_int (by rw [HZ.out]; omega), (Below.refl _ _).alloc (Nat.le_refl _) _⟩

theorem sum_take_le (l : List Nat) (k : Nat) : (l.take k).sum ≤ l.sum := by
  conv => rhs; rw [← List.take_append_drop k l]
  rw [List.sum_append]; omega
theorem sum_take_succ (l : List Nat) (k : Nat) (h : k < l.length) : (l.take (k + 1)).sum = (l.take k).sum + l[k] := by
  rw [List.take_succ_eq_append_getElem h, List.sum_append]; simp

/-- Cells of a slice, wherever nothing old has turned. -/
theorem SlC.cells_at {w wr : World} {T : TypeId} {A : Option Addr} {n c : Nat} {xs : List Value} (h : SlC w T (.slice A n c) n xs) (hb : Below w.heap.size w wr) {k : Nat} (hk : k < n) :
    ∃ g o u v, A = some ⟨g, o, none⟩ ∧ xs[k * 2]? = some u ∧ xs[k * 2 + 1]? = some v ∧ wr.cell? ⟨g, o + k * 2, none⟩ = some u ∧ wr.cell? ⟨g, o + k * 2 + 1, none⟩ = some v ∧ g < w.heap.size := by
  obtain ⟨hl, A', c', hv, _, _, _, hp⟩ := h
  injection hv with h1 _ h3
  subst h1
  obtain ⟨g, o, cur, rfl, hg, hx⟩ := hp (by omega)
  have l1 : k * 2 < xs.length := by omega
  have l2 : k * 2 + 1 < xs.length := by omega
  refine ⟨g, o, xs[k * 2], xs[k * 2 + 1], rfl, List.getElem?_eq_getElem l1, List.getElem?_eq_getElem l2, ?_, ?_, hg.lt⟩
  · rw [hb.cell hg.lt, hg.cell]; exact hx _ _ (List.getElem?_eq_getElem l1)
  · rw [hb.cell hg.lt, hg.cell, Nat.add_assoc]; exact hx _ _ (List.getElem?_eq_getElem l2)

set_option maxRecDepth 100000 in
/-- sum of a list of pairs, by pairSize. -/
theorem sum_pair (es : List (Str × Str)) (A : Option Addr) (c : Nat) (w : World) (h : SlC w 68 (.slice A es.length c) es.length (pcells es)) (hn : es.length ≤ 1000) (hs : (es.map lsz).sum ≤ 100000) :
    Calls Tryz.prog 168 #[.slice A es.length c, .func (.func 127) #[] #[]] w fun e w' => e = .returned (.int .i64 ((es.map lsz).sum : Nat)) ∧ Below w.heap.size w w' := by
  obtain ⟨sz, hsz⟩ : ∃ l : List Nat, l = es.map lsz := ⟨_, rfl⟩
  have hszl : sz.length = es.length := by rw [hsz, List.length_map]
  have hall : ∀ k (hk : k < es.length), (es[k].1.size + es[k].2.size ≤ 100000) ∧ (sz.take (k + 1)).sum = (sz.take k).sum + lsz es[k] ∧ (sz.take k).sum ≤ 100000 ∧ (sz.take (k + 1)).sum ≤ 100000 := by
    intro k hk
    have h1 := sum_take_le sz (k + 1)
    have h2 := sum_take_le sz k
    have h3 := sum_take_succ sz k (by omega)
    have h4 : sz[k]'(by omega) = lsz es[k] := by simp only [hsz, List.getElem_map]
    rw [h4] at h3
    rw [hsz] at h1 h2
    rw [hsz] at h3 ⊢
    refine ⟨?_, h3, by omega, by omega⟩
    have h5 : lsz es[k] ≤ 100000 := by omega
    unfold lsz at h5
    omega
  have H := hide h
  have HALL := hide hall
  have HSZ := hide hsz
  have HSL := hide hszl
  clear h hall hszl hsz hs
  obtain ⟨n, hn'⟩ : ∃ n, n = es.length := ⟨_, rfl⟩
  rw [← hn'] at hn ⊢
  have HN := hide hn'
  clear hn'
  go_enter Tryz.func168, Tryz.ntmps168
  go_wp2
  go_loopw [5, 10] (fun s i wr => ∃ k : Nat, k ≤ n ∧ i = .int .i64 k ∧ s = .int .i64 ((sz.take k).sum : Nat) ∧ Below w.heap.size w wr) (fun _ i _ => n - (intOf i).toNat)
  case atStart => exact ⟨0, by omega, rfl, rfl, Below.refl _ _⟩
  case round =>
    obtain ⟨k, hk, rfl, rfl, hb⟩ := hrel
    by_cases hlt : k < n
    · have hk' : k < es.length := by have := HN.out; omega
      obtain ⟨g, o, u, v, hA, hu, hv, c1, c2, hg⟩ := (HN.out ▸ H.out).cells_at hb hlt
      obtain ⟨z1, z2, z3, z4⟩ := HALL.out k hk'
      have hc := pcells_at es k hk'
      rw [hc.1] at hu
      rw [hc.2] at hv
      injection hu with hu
      injection hv with hv
      subst hu
      subst hv
      subst hA
      have Z1 := hide z1
      have Z2 := hide z2
      have Z3 := hide z3
      have Z4 := hide z4
      have hgr : g < wr.heap.size := Nat.lt_of_lt_of_le hg hb.size
      clear hc z1 z2 z3 z4
      obtain ⟨sk, hsk⟩ : ∃ s, s = (sz.take k).sum := ⟨_, rfl⟩
      have q1 : sk ≤ 100000 := by rw [hsk]; exact Z3.out
      rw [← hsk]
      have HSK := hide hsk
      clear hsk
      obtain ⟨z, hz⟩ : ∃ z, z = lsz es[k] := ⟨_, rfl⟩
      have q2 : z ≤ 100000 := by have := Z2.out; have := Z4.out; omega
      have HZ := hide hz
      clear hz
      go_wp2_with (go_at_call 127; refine (pairSize_any es[k].1 es[k].2 z _ Z1.out HZ.out).mono ?_; rintro e w1 ⟨rfl, hb1⟩)
      go_roundw
      case rel =>
        refine ⟨k + 1, by omega, by go_num, ?_, ?_⟩
        · have h2 := Z2.out
          rw [← HSK.out, ← HZ.out] at h2
          rw [h2]
          go_num
        · have hsz' : w.heap.size ≤ wr.heap.size := hb.size
          refine (hb.alloc hsz' _).trans (hb1.mono ?_)
          simp
          omega
      case measure => simp [intOf]; omega
    · go_wp2
      go_ret
      refine ⟨ret_int ?_, hb⟩
      have : k = n := by omega
      subst this
      rw [← HSZ.out, List.take_of_length_le (by have := HSL.out; have := HN.out; omega)]

set_option maxRecDepth 100000 in
/-- sum of a list of children, by kidSize. -/
theorem sum_kid {K : Type} (es : List (Str × K)) (bs : List Nat) (A : Option Addr) (c : Nat) (w : World) (h : SlC w 139 (.slice A es.length c) es.length (kcells es bs)) (hn : es.length ≤ 1000) (hs : (es.map ksz).sum ≤ 100000) (hbs : bs.length = es.length) :
    Calls Tryz.prog 169 #[.slice A es.length c, .func (.func 130) #[] #[]] w fun e w' => e = .returned (.int .i64 ((es.map ksz).sum : Nat)) ∧ Below w.heap.size w w' := by
  obtain ⟨sz, hsz⟩ : ∃ l : List Nat, l = es.map ksz := ⟨_, rfl⟩
  have hszl : sz.length = es.length := by rw [hsz, List.length_map]
  have hall : ∀ k (hk : k < es.length), (es[k].1.size ≤ 100000) ∧ (sz.take (k + 1)).sum = (sz.take k).sum + ksz es[k] ∧ (sz.take k).sum ≤ 100000 ∧ (sz.take (k + 1)).sum ≤ 100000 := by
    intro k hk
    have h1 := sum_take_le sz (k + 1)
    have h2 := sum_take_le sz k
    have h3 := sum_take_succ sz k (by omega)
    have h4 : sz[k]'(by omega) = ksz es[k] := by simp only [hsz, List.getElem_map]
    rw [h4] at h3
    rw [hsz] at h1 h2
    rw [hsz] at h3 ⊢
    refine ⟨?_, h3, by omega, by omega⟩
    have h5 : ksz es[k] ≤ 100000 := by omega
    unfold ksz at h5
    omega
  have H := hide h
  have HALL := hide hall
  have HSZ := hide hsz
  have HSL := hide hszl
  clear h hall hszl hsz hs
  obtain ⟨n, hn'⟩ : ∃ n, n = es.length := ⟨_, rfl⟩
  rw [← hn'] at hn ⊢
  have HN := hide hn'
  clear hn'
  go_enter Tryz.func169, Tryz.ntmps169
  go_wp2
  go_loopw [5, 10] (fun s i wr => ∃ k : Nat, k ≤ n ∧ i = .int .i64 k ∧ s = .int .i64 ((sz.take k).sum : Nat) ∧ Below w.heap.size w wr) (fun _ i _ => n - (intOf i).toNat)
  case atStart => exact ⟨0, by omega, rfl, rfl, Below.refl _ _⟩
  case round =>
    obtain ⟨k, hk, rfl, rfl, hb⟩ := hrel
    by_cases hlt : k < n
    · have hk' : k < es.length := by have := HN.out; omega
      obtain ⟨g, o, u, v, hA, hu, hv, c1, c2, hg⟩ := (HN.out ▸ H.out).cells_at hb hlt
      obtain ⟨z1, z2, z3, z4⟩ := HALL.out k hk'
      have hc := kcells_at es bs k hk' (by omega)
      rw [hc.1] at hu
      rw [hc.2] at hv
      injection hu with hu
      injection hv with hv
      subst hu
      subst hv
      subst hA
      have Z1 := hide z1
      have Z2 := hide z2
      have Z3 := hide z3
      have Z4 := hide z4
      have hgr : g < wr.heap.size := Nat.lt_of_lt_of_le hg hb.size
      clear hc z1 z2 z3 z4
      obtain ⟨sk, hsk⟩ : ∃ s, s = (sz.take k).sum := ⟨_, rfl⟩
      have q1 : sk ≤ 100000 := by rw [hsk]; exact Z3.out
      rw [← hsk]
      have HSK := hide hsk
      clear hsk
      obtain ⟨z, hz⟩ : ∃ z, z = ksz es[k] := ⟨_, rfl⟩
      have q2 : z ≤ 100000 := by have := Z2.out; have := Z4.out; omega
      have HZ := hide hz
      clear hz
      go_wp2_with (go_at_call 130; refine (kidSize_any es[k].1 (bs[k]'(by omega)) z _ Z1.out HZ.out).mono ?_; rintro e w1 ⟨rfl, hb1⟩)
      go_roundw
      case rel =>
        refine ⟨k + 1, by omega, by go_num, ?_, ?_⟩
        · have h2 := Z2.out
          rw [← HSK.out, ← HZ.out] at h2
          rw [h2]
          go_num
        · have hsz' : w.heap.size ≤ wr.heap.size := hb.size
          refine (hb.alloc hsz' _).trans (hb1.mono ?_)
          simp
          omega
      case measure => simp [intOf]; omega
    · go_wp2
      go_ret
      refine ⟨ret_int ?_, hb⟩
      have : k = n := by omega
      subst this
      rw [← HSZ.out, List.take_of_length_le (by have := HSL.out; have := HN.out; omega)]

end Go.Proofs.YtemondlgcmpbbaaGreatDoor
