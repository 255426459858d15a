/- Za Zb: merged. -/
import Derived.Test.YtemondlgcmpbbaaGreatDoorMX10
import Derived.Test.YtemondlgcmpbbaaGreatDoorMX23
import Derived.Test.YtemondlgcmpbbaaGreatDoorMX24
import Derived.Test.YtemondlgcmpbbaaGreatDoorMX25
namespace Go.Proofs.YtemondlgcmpbbaaGreatDoor
open Go.RowKit
set_option maxRecDepth 100000
structure CuI where
 q : Nat
 c : Nat
 key : Str
 on : Bool
 stamp : Int
structure TxI where
 l : Nat
 t : Nat
 wr : Bool
 done : Bool
 st : Int
 most : Nat
 T : Tree
 rp : Value
 dn : List Nat
 lv : Value
 csv : Value
 cs : List CuI
structure StI where
 x : Nat
 dk : Nat
 rd : Nat
 tsv : Value
 ts : List TxI
structure LsI where
 a : Value
 b : Value
 l : List (Str × Str)
structure DiI where
 p : Nat
 db : Nat
 g : Nat
 st : Option StI
 lsv : Value
 wtv : Value
 ls : List LsI
def CuI.own (c : CuI) : List Nat := [c.q, c.c]
def TxI.own (τ : TxI) : List Nat := τ.l :: τ.t :: (τ.csv.ownBlock.toList ++ τ.cs.flatMap CuI.own)
def StI.own (σ : StI) : List Nat := σ.x :: σ.rd :: (σ.tsv.ownBlock.toList ++ σ.ts.flatMap TxI.own)
def DiI.sown (d : DiI) : List Nat := match d.st with | none => [] | some σ => σ.own
def DiI.base (d : DiI) : List Nat := d.p :: d.db :: d.g :: (d.lsv.ownBlock.toList ++ d.wtv.ownBlock.toList)
def DiI.own (d : DiI) : List Nat := d.base ++ d.sown
def pkv (x : Nat) : Value := .pointer (some ⟨x, 0, none⟩)
def wrL (ts : List TxI) : List Nat := (ts.filter fun τ => τ.wr && !τ.done).map (·.t)
def rdL (ts : List TxI) : List Nat := (ts.filter fun τ => !τ.wr && !τ.done).map (·.t)
def wrV (ts : List TxI) : Value := match wrL ts with | [] => .pointer none | t :: _ => pkv t
def zhu (T : TypeId) : Bool := ([137, 68, 139, 303, 241, 151, 186, 3, 235] : List TypeId).contains T
def kfB (T : TypeId) : Bool := ([137, 68, 139, 303, 241, 151] : List TypeId).contains T
theorem zuh {T : TypeId} (h : kfB T = true) : zhu T = true := by
 unfold kfB at h
 rw [List.contains_iff_mem] at h
 simp only [List.mem_cons, List.not_mem_nil, or_false] at h
 rcases h with rfl | rfl | rfl | rfl | rfl | rfl <;> rfl
theorem zs0 {T : TypeId} (h : Imm T) : kfB T = true := by
 rcases h with rfl | rfl | rfl <;> decide
def KF (fp : Nat -> Prop) (w : World) : Prop := ∀ z T cs, Blk w z T cs -> kfB T = true -> ¬ fp z
def OwnB (w : World) (y : Nat) : Prop := (∃ T cs, Blk w y T cs /\ zhu T = false) \/ ∃ es clk, w.heap[y]? = some (.map es clk)
theorem OwnB.ne {w : World} {y z : Nat} {T : TypeId} {cs : Array Value} (h : OwnB w y) (hz : Blk w z T cs) (hk : zhu T = true) : z ≠ y := by
 intro e
 subst e
 rcases h with ⟨T', cs', h1, h2⟩ | ⟨es, clk, h1⟩
 . exact Blk.ne_ h1 hz (fun e => by rw [e, hk] at h2; cases h2) rfl
 . have h2 : w.heap[z]? = _ := hz
   rw [h1] at h2
   injection h2 with h2
   cases h2
theorem OwnB.lt {w : World} {y : Nat} (h : OwnB w y) : y < w.heap.size := by
 rcases h with ⟨T', cs', h1, h2⟩ | ⟨es, clk, h1⟩
 . exact h1.lt
 . exact (Array.getElem?_eq_some_iff.1 h1).1
theorem OwnB.blk {w : World} {y : Nat} {T : TypeId} {cs : Array Value} (h : Blk w y T cs) (hT : zhu T = false) : OwnB w y := .inl ⟨T, cs, h, hT⟩
theorem OwnB.row {w : World} {base s n : Nat} {T : TypeId} {v : Value} {xs : List Value} (h : w.ownsRow base T s v n xs) (hT : zhu T = false) {y : Nat} (hy : y ∈ v.ownBlock.toList) : OwnB w y := by
 obtain ⟨A, c, rfl, _, _, h1, _⟩ := zad h
 rw [Option.mem_toList] at hy
 obtain ⟨_, _, _, cur, hb, _⟩ := h1 y hy
 exact .inl ⟨T, cur, hb, hT⟩
theorem KF.of {w : World} {fp : Nat -> Prop} (h : ∀ y, fp y -> OwnB w y) : KF fp w := fun _ _ _ hz hk hf => (h _ hf).ne hz (zuh hk) rfl
structure CuOk (w : World) (t : Nat) (T : Tree) (st : Int) (c : CuI) : Prop where
 law : Blk w c.q 302 #[.pointer (some ⟨c.c, 0, none⟩), .string c.key, .bool c.on, .int .i64 c.stamp]
 at_ : zld w c.c t c.key c.on c.stamp
 le : 0 <= c.stamp /\ c.stamp <= st
 has : c.on = true -> c.stamp = st -> ∃ n, ∃ h : n < T.pairs.length, T.pairs[n].1 = c.key
theorem CuOk.own {w : World} {t : Nat} {T : Tree} {st : Int} {c : CuI} (h : CuOk w t T st c) : ∀ y ∈ c.own, OwnB w y := by
 intro y hy
 simp only [CuI.own, List.mem_cons, List.not_mem_nil, or_false] at hy
 rcases hy with rfl | rfl
 . exact OwnB.blk h.law (by decide)
 . exact OwnB.blk h.at_ (by decide)
theorem CuOk.only {fp : Nat -> Prop} {w w' : World} {t : Nat} {T : Tree} {st : Int} {c : CuI} (h : CuOk w t T st c) (ho : Only fp w w') (hf : ∀ y ∈ c.own, ¬ fp y) : CuOk w' t T st c :=
 ⟨h.law.only ho (hf _ (by simp [CuI.own])), Blk.only h.at_ ho (hf _ (by simp [CuI.own])), h.le, h.has⟩
def zeg (w : World) (τ : TxI) : Prop := Blk w τ.l 273 #[.pointer (some ⟨τ.t, 0, none⟩), τ.lv, .bool τ.wr, .bool τ.done, .int .i64 τ.st, .int .i64 τ.most, .int .i64 0, .int .i64 τ.st, τ.csv]
def TxI.tx (τ : TxI) (x : Nat) : TxS := ⟨x, τ.rp, τ.T.keys, τ.wr, τ.done, τ.st⟩
structure TxOk (w : World) (x B N : Nat) (τ : TxI) : Prop where
 law : zeg w τ
 tx : TxAt w τ.t (τ.tx x)
 tree : TreeV (fun z => z < w.heap.size) w τ.T τ.rp τ.dn
 nd : τ.dn.Nodup
 tr : TR τ.T
 row : RRow w τ.lv τ.T.pairs
 few : τ.T.pairs.length <= τ.most
 most : τ.most <= 140
 st : 0 <= τ.st /\ τ.st <= N
 crow : w.ownsRow B 279 1 τ.csv τ.cs.length (τ.cs.map fun c => pkv c.q)
 cur : ∀ c ∈ τ.cs, CuOk w τ.t τ.T τ.st c
 cn : τ.cs.length <= N
section
variable {w w' : World} {x B N : Nat} {τ : TxI}
theorem TxOk.own (h : TxOk w x B N τ) : ∀ y ∈ τ.own, OwnB w y := by
 intro y hy
 simp only [TxI.own, List.mem_cons, List.mem_append, List.mem_flatMap] at hy
 rcases hy with rfl | rfl | hy | ⟨c, hc, hy⟩
 . exact OwnB.blk h.law (by decide)
 . exact OwnB.blk h.tx (by decide)
 . exact OwnB.row h.crow (by decide) hy
 . exact (h.cur c hc).own y hy
theorem TreeV.size (h : TreeV (fun z => z < w.heap.size) w τ.T τ.rp τ.dn) {fp : Nat -> Prop} (ho : Only fp w w') (hk : KF fp w) : TreeV (fun z => z < w'.heap.size) w' τ.T τ.rp τ.dn :=
 (h.only ho fun z T cs _ hz hi => hk z T cs hz (zs0 hi)).imp id fun ⟨a, n, b, e1, e2, e3⟩ => ⟨a, n, b, e1, e2, e3.more fun _ hz => Nat.lt_of_lt_of_le hz ho.size⟩
theorem TxOk.only {fp : Nat -> Prop} (h : TxOk w x B N τ) (ho : Only fp w w') (hk : KF fp w) (hf : ∀ y ∈ τ.own, ¬ fp y) : TxOk w' x B N τ := by
 have h1 : ¬ fp τ.l := hf _ (by simp [TxI.own])
 have h2 : ¬ fp τ.t := hf _ (by simp [TxI.own])
 refine ⟨Blk.only h.law ho h1, Blk.only h.tx ho h2, h.tree.size ho hk, h.nd, h.tr, h.row.only ho (fun z cs hz => hk z _ cs hz (by decide)), h.few, h.most, h.st, ?_, fun c hc => (h.cur c hc).only ho fun y hy => hf y ?_, h.cn⟩
 . exact za2 h.crow ho fun g hg => hf g (by simp [TxI.own, hg])
 . simp only [TxI.own, List.mem_cons, List.mem_append, List.mem_flatMap]
   exact .inr (.inr (.inr ⟨c, hc, hy⟩))
theorem TxOk.more (h : TxOk w x B N τ) : TxOk w x B (N + 1) τ :=
 ⟨h.law, h.tx, h.tree, h.nd, h.tr, h.row, h.few, h.most, by have := h.st; omega, h.crow, h.cur, by have := h.cn; omega⟩
theorem TxOk.len (h : TxOk w x B N τ) : τ.T.pairs.length <= 140 := Nat.le_trans h.few h.most
end
structure StOk (w : World) (B N b n : Nat) (σ : StI) : Prop where
 db : DbAt w σ.x ⟨σ.dk, .pointer none, 0, wrV σ.ts, σ.rd, false⟩
 rd : RdAt w σ.rd (rdL σ.ts)
 dk : ∃ hd : Hd, Blk w σ.dk 151 (#[dev b] ++ hd.cells)
 row : w.ownsRow B 247 1 σ.tsv σ.ts.length (σ.ts.map fun τ => pkv τ.l)
 each : ∀ τ ∈ σ.ts, TxOk w σ.x B N τ
 one : (wrL σ.ts).length <= 1
 four : (rdL σ.ts).length <= 4
 len : σ.ts.length <= N
 fit : n <= 400
section
variable {w w' : World} {B N b n : Nat} {σ : StI}
theorem StOk.own (h : StOk w B N b n σ) : ∀ y ∈ σ.own, OwnB w y := by
 intro y hy
 simp only [StI.own, List.mem_cons, List.mem_append, List.mem_flatMap] at hy
 rcases hy with rfl | rfl | hy | ⟨c, hc, hy⟩
 . exact OwnB.blk h.db (by decide)
 . obtain ⟨es, clk, hm, _⟩ := h.rd
   exact .inr ⟨es, clk, hm⟩
 . exact OwnB.row h.row (by decide) hy
 . exact (h.each c hc).own y hy
theorem StOk.only {fp : Nat -> Prop} (h : StOk w B N b n σ) (ho : Only fp w w') (hk : KF fp w) (hf : ∀ y ∈ σ.own, ¬ fp y) : StOk w' B N b n σ := by
 obtain ⟨hd, hdk⟩ := h.dk
 refine ⟨Blk.only h.db ho (hf _ (by simp [StI.own])), h.rd.only ho (hf _ (by simp [StI.own])), ⟨hd, hdk.only ho (hk _ _ _ hdk (by decide))⟩, za2 h.row ho fun g hg => hf g (by simp [StI.own, hg]), fun τ hτ => (h.each τ hτ).only ho hk fun y hy => hf y ?_, h.one, h.four, h.len, h.fit⟩
 simp only [StI.own, List.mem_cons, List.mem_append, List.mem_flatMap]
 exact .inr (.inr (.inr ⟨τ, hτ, hy⟩))
theorem StOk.more (h : StOk w B N b n σ) : StOk w B (N + 1) b n σ :=
 ⟨h.db, h.rd, h.dk, h.row, fun τ hτ => (h.each τ hτ).more, h.one, h.four, by have := h.len; omega, h.fit⟩
end
structure LsOk (w : World) (B N : Nat) (lsv wtv : Value) (ls : List LsI) : Prop where
 a : w.ownsRow B 39 1 lsv ls.length (ls.map (·.a))
 b : w.ownsRow B 39 1 wtv ls.length (ls.map (·.b))
 each : ∀ e ∈ ls, (∃ base, w.ownsRow base 68 2 e.a e.l.length (zaf e.l)) /\ ∃ base, w.ownsRow base 68 2 e.b e.l.length (zaf e.l)
 len : ls.length <= 2 * N
theorem LsOk.only {fp : Nat -> Prop} {w w' : World} {B N : Nat} {lsv wtv : Value} {ls : List LsI} (h : LsOk w B N lsv wtv ls) (ho : Only fp w w') (hk : KF fp w) (ha : ∀ y ∈ lsv.ownBlock.toList, ¬ fp y) (hb : ∀ y ∈ wtv.ownBlock.toList, ¬ fp y) : LsOk w' B N lsv wtv ls :=
 ⟨za2 h.a ho fun g hg => ha g (by simp [hg]), za2 h.b ho fun g hg => hb g (by simp [hg]), fun e he => ⟨(h.each e he).1.imp fun base k => zak k ho fun z cs hz => hk z _ cs hz (by decide), (h.each e he).2.imp fun base k => zak k ho fun z cs hz => hk z _ cs hz (by decide)⟩, h.len⟩
theorem LsOk.more {w : World} {B N : Nat} {lsv wtv : Value} {ls : List LsI} (h : LsOk w B N lsv wtv ls) : LsOk w B (N + 1) lsv wtv ls := ⟨h.a, h.b, h.each, by have := h.len; omega⟩
def StIs (w : World) (B N : Nat) (d : DiI) (s : LdS) : Prop := match d.st with
 | none => s.x = .pointer none
 | some σ => s.x = pkv σ.x /\ s.c = .slice none 0 0 /\ s.commits = 0 /\ s.ts = σ.tsv /\ StOk w B N d.db s.n σ
structure DiOk (w : World) (B N : Nat) (d : DiI) (s : LdS) (m : Nums) (bytes : List UInt8) (kM kW : Nat) : Prop where
 dk : DiskOk w B N ⟨d.p, d.db, d.g⟩ s m bytes kM kW
 poi : s.poi = false
 lists : s.lists = d.lsv
 want : s.want = d.wtv
 st : StIs w B N d s
 ls : LsOk w B N d.lsv d.wtv d.ls
def DiIs (w : World) (B N : Nat) (d : DiI) : Prop := ∃ s m bytes kM kW, DiOk w B N d s m bytes kM kW
section
variable {w w' : World} {B N : Nat} {d : DiI} {s : LdS} {m : Nums} {bytes : List UInt8} {kM kW : Nat}
theorem DiOk.own (h : DiOk w B N d s m bytes kM kW) : ∀ y ∈ d.own, OwnB w y := by
 intro y hy
 rw [DiI.own, List.mem_append] at hy
 rcases hy with hy | hy
 . simp only [DiI.base, List.mem_cons, List.mem_append] at hy
   rcases hy with rfl | rfl | rfl | hy | hy
   . exact OwnB.blk h.dk.at_ (by decide)
   . exact OwnB.blk h.dk.dk.at_ (by decide)
   . exact OwnB.blk h.dk.dk.blk (by decide)
   . exact OwnB.row h.ls.a (by decide) hy
   . exact OwnB.row h.ls.b (by decide) hy
 . have h1 := h.st
   unfold StIs at h1
   unfold DiI.sown at hy
   cases e : d.st with
   | none => rw [e] at hy; cases hy
   | some σ =>
     rw [e] at h1 hy
     exact h1.2.2.2.2.own y hy
theorem DiOk.only {fp : Nat -> Prop} (h : DiOk w B N d s m bytes kM kW) (ho : Only fp w w') (hk : KF fp w) (hf : ∀ y ∈ d.own, ¬ fp y) : DiOk w' B N d s m bytes kM kW := by
 refine ⟨h.dk.only ho (hf _ (by simp [DiI.own, DiI.base])) (hf _ (by simp [DiI.own, DiI.base])) (hf _ (by simp [DiI.own, DiI.base])) (fun z cs hz => hk z _ cs hz (by decide)), h.poi, h.lists, h.want, ?_, h.ls.only ho hk (fun y hy => hf y (by simp [DiI.own, DiI.base] at hy ⊢; simp [hy])) (fun y hy => hf y (by simp [DiI.own, DiI.base] at hy ⊢; simp [hy]))⟩
 have h1 := h.st
 unfold StIs at h1 ⊢
 cases e : d.st with
 | none => rw [e] at h1; exact h1
 | some σ =>
   rw [e] at h1
   exact ⟨h1.1, h1.2.1, h1.2.2.1, h1.2.2.2.1, h1.2.2.2.2.only ho hk fun y hy => hf y (by simp [DiI.own, DiI.sown, e, hy])⟩
theorem DiOk.more (h : DiOk w B N d s m bytes kM kW) : DiOk w B (N + 1) d s m bytes kM kW := by
 refine ⟨h.dk.more, h.poi, h.lists, h.want, ?_, h.ls.more⟩
 have h1 := h.st
 unfold StIs at h1 ⊢
 cases e : d.st with
 | none => rw [e] at h1; exact h1
 | some σ =>
   rw [e] at h1
   exact ⟨h1.1, h1.2.1, h1.2.2.1, h1.2.2.2.1, h1.2.2.2.2.more⟩
theorem DiIs.more (h : DiIs w B N d) : DiIs w B (N + 1) d := by
 obtain ⟨s, m, bytes, kM, kW, h⟩ := h
 exact ⟨s, m, bytes, kM, kW, h.more⟩
theorem DiIs.only {fp : Nat -> Prop} (h : DiIs w B N d) (ho : Only fp w w') (hk : KF fp w) (hf : ∀ y ∈ d.own, ¬ fp y) : DiIs w' B N d := by
 obtain ⟨s, m, bytes, kM, kW, h⟩ := h
 exact ⟨s, m, bytes, kM, kW, h.only ho hk hf⟩
theorem DiIs.own (h : DiIs w B N d) : ∀ y ∈ d.own, OwnB w y := by
 obtain ⟨s, m, bytes, kM, kW, h⟩ := h
 exact h.own
theorem DiIs.below (h : DiIs w B N d) (hb : Below w.heap.size w w') : DiIs w' B N d := h.only (fp := fun _ => False) (Only.of_below hb) (fun _ _ _ _ _ => id) (fun _ _ => id)
end
theorem zdw {A F F' C : List Nat} {z : Nat} (h : (A ++ F ++ C).Nodup) (hl : ∀ y ∈ A ++ F ++ C, y < z) (hF : F'.Nodup) (hs : ∀ y ∈ F', y ∈ F \/ z <= y) : (A ++ F' ++ C).Nodup := by
 have h1 : ∀ y, y ∈ A -> y ∉ F' := fun y hy hy' => by
  rcases hs y hy' with k | k
  . have := (List.nodup_append.1 (List.nodup_append.1 h).1).2.2 y hy y k
    exact this rfl
  . have := hl y (by simp [hy]); omega
 have h2 : ∀ y, y ∈ C -> y ∉ F' := fun y hy hy' => by
  rcases hs y hy' with k | k
  . have := (List.nodup_append.1 h).2.2 y (by simp [k]) y hy
    exact this rfl
  . have := hl y (by simp [hy]); omega
 obtain ⟨k1, k2, k3⟩ := List.nodup_append.1 h
 obtain ⟨k4, k5, k6⟩ := List.nodup_append.1 k1
 refine List.nodup_append.2 ⟨List.nodup_append.2 ⟨k4, hF, fun a ha b hb e => h1 a ha (e ▸ hb)⟩, k2, fun a ha b hb e => ?_⟩
 rw [List.mem_append] at ha
 rcases ha with ha | ha
 . exact k3 a (by simp [ha]) b hb e
 . exact h2 b hb (e ▸ ha)
structure Turned (w w' : World) (d d' : DiI) : Prop where
 p : d'.p = d.p
 own : ∀ y ∈ d'.own, y ∈ d.own \/ w.heap.size <= y
 nd : d'.own.Nodup
 only : Only (· ∈ d.own) w w'
def TurnPost (B N : Nat) (d : DiI) (w : World) : Ending -> World -> Prop := fun e w' => e = .returned (.bool true) /\ ∃ d', DiIs w' B (N + 1) d' /\ Turned w w' d d'
section
variable {w : World} {B N : Nat} {d : DiI} {s : LdS} {m : Nums} {bytes : List UInt8} {kM kW : Nat}
theorem DiOk.kf (h : DiOk w B N d s m bytes kM kW) {fp : Nat -> Prop} (hf : ∀ y, fp y -> y ∈ d.own) : KF fp w := KF.of fun y hy => h.own y (hf y hy)
theorem DiI.ne_ls (hn : d.own.Nodup) {y : Nat} (hy : y ∈ d.lsv.ownBlock.toList \/ y ∈ d.wtv.ownBlock.toList \/ y ∈ d.sown) : ¬ (y = d.p \/ y = d.db \/ y = d.g) := by
 unfold DiI.own DiI.base at hn
 simp only [List.cons_append, List.nodup_cons, List.mem_cons, List.mem_append] at hn
 obtain ⟨h1, h2, h3, _⟩ := hn
 rintro (e | e | e) <;> subst e
 . exact h1 (.inr (.inr (by rcases hy with k | k | k; exact .inl (.inl k); exact .inl (.inr k); exact .inr k)))
 . exact h2 (.inr (by rcases hy with k | k | k; exact .inl (.inl k); exact .inl (.inr k); exact .inr k))
 . exact h3 (by rcases hy with k | k | k; exact .inl (.inl k); exact .inl (.inr k); exact .inr k)
theorem DiI.base_nodup (hn : d.own.Nodup) : d.base.Nodup := (List.nodup_append.1 hn).1
theorem DiI.close_own : ({ d with st := none } : DiI).own = d.base := by simp [DiI.own, DiI.sown, DiI.base]
theorem Turned.close {w' : World} (hn : d.own.Nodup) (ho : Only (fun y => y = d.p \/ y = d.db \/ y = d.g) w w') : Turned w w' d { d with st := none } :=
 ⟨rfl, fun y hy => .inl (by rw [DiI.close_own] at hy; rw [DiI.own, List.mem_append]; exact .inl hy), by rw [DiI.close_own]; exact DiI.base_nodup hn, ho.mono fun y _ hy => by rcases hy with rfl | rfl | rfl <;> simp [DiI.own, DiI.base]⟩
theorem zrc (h : DiIs w B N d) (hn : d.own.Nodup) (hg : Glob w) (hB : 0 < B) (hN : N <= 16384) :
   Calls Tryz.prog 148 #[pkv d.p] w (TurnPost B N d w) := by
 obtain ⟨s, m, bytes, kM, kW, H⟩ := h
 have h := H.dk
 have hlo : B <= d.p /\ B <= d.db /\ B <= d.g := h.lo
 have hfew := h.few
 have hdk : Dk w (5 * N) s.db d.g 0 s.n (.slice none 0 0) m bytes [] := by rw [h.db]; exact h.dk
 have hls : ∀ W, Only (fun y => y = d.p \/ y = d.db \/ y = d.g) w W -> LsOk W B N d.lsv d.wtv d.ls := fun W ho => H.ls.only ho (H.kf fun y hy => by rcases hy with rfl | rfl | rfl <;> simp [DiI.own, DiI.base]) (fun y hy => DiI.ne_ls hn (.inl hy)) (fun y hy => DiI.ne_ls hn (.inr (.inl hy)))
 cases hf : zbp s.n with
 | false =>
   refine (zk4 (5 * N) d.p d.g 0 kM kW s m bytes w h.at_ h.ok hdk hf hg (by omega)).mono ?_
   rintro e w' ⟨rfl, hl, ho⟩
   have ho' : Only (fun y => y = d.p \/ y = d.db \/ y = d.g) w w' := ho.mono fun x _ e => .inl e
   have hpd : ¬ dfp d.db d.g (.slice none 0 0) d.p := zdn h.dk h.at_ (by decide) (by decide) (by decide)
   have hm : ∀ x cs, Blk w x 241 cs -> ¬ x = d.p := fun x cs hx e => by subst e; exact Blk.ne_ hx h.at_ (by decide) rfl
   refine ⟨rfl, { d with st := none }, DiIs.more ⟨s.closed, m, bytes, kM, kW, ?_, rfl, H.lists, H.want, rfl, hls _ ho'⟩, Turned.close hn ho'⟩
   exact ⟨hl, ⟨h.ok.may.only ho hm, h.ok.were.only ho hm, h.ok.emp, h.ok.wild, h.ok.bit, h.ok.kM, h.ok.kW⟩, h.dk.only ho (fun y hy e => hpd (e ▸ hy)), h.db, h.calm, h.hz, h.few, h.st, h.lo, h.lt⟩
 | true =>
   refine (zk3 (5 * N) d.p d.g 0 kM kW s m bytes w h.at_ h.ok hdk h.calm hf (by unfold zc8; omega) (by omega)).mono ?_
   rintro e w' ⟨may', were', rfl, hl, hok, hd, ho⟩
   rw [h.db] at hd ho
   have hn' := (zel s.n).1 hf
   obtain ⟨hd1, tl1, e1, _, hz1⟩ := zli (bytes := bytes) (n := zcg bytes) (G := N) h.dk.len (Nat.le_trans hn'.1 h.dk.cap) h.hz (by omega)
   refine ⟨rfl, { d with st := none }, ⟨{ s.closed with may := may', were := were' }, (zbo m 2).tick.wrote.tick, zeb bytes [] (zau (zay (zal bytes []))), 1, kW + 1, ?_, rfl, H.lists, H.want, rfl, (hls _ ho).more⟩, Turned.close hn ho⟩
   exact ⟨hl, hok, hd.more (by omega), h.db, ((((zb9 h.calm 2).tick).wrote).tick), hz1, by omega, .inr ⟨hd1, tl1, e1, rfl⟩, h.lo, h.lt⟩
theorem zui (h : DiIs w B N d) (hn : d.own.Nodup) (hg : Glob w) (hB : 0 < B) (hN : N <= 16384) (_hwB : B <= w.heap.size) :
   Calls Tryz.prog 149 #[pkv d.p] w (TurnPost B N d w) := by
 obtain ⟨s, m, bytes, kM, kW, H⟩ := h
 have h := H.dk
 have hlo : B <= d.p /\ B <= d.db /\ B <= d.g := h.lo
 have hfew := h.few
 have hdk : Dk w (5 * N) s.db d.g 0 s.n (.slice none 0 0) m bytes [] := by rw [h.db]; exact h.dk
 have hpd : ¬ dfp d.db d.g (.slice none 0 0) d.p := zdn h.dk h.at_ (by decide) (by decide) (by decide)
 have hls : ∀ W, Only (fun y => y = d.p \/ y = d.db \/ y = d.g) w W -> LsOk W B N d.lsv d.wtv d.ls := fun W ho => H.ls.only ho (H.kf fun y hy => by rcases hy with rfl | rfl | rfl <;> simp [DiI.own, DiI.base]) (fun y hy => DiI.ne_ls hn (.inl hy)) (fun y hy => DiI.ne_ls hn (.inr (.inl hy)))
 cases hf : zbp s.n with
 | false =>
   refine (zo1 (5 * N) d.p d.g 0 kM kW s m bytes w h.at_ h.ok hdk hf hg (by omega)).mono ?_
   rintro e w' ⟨rfl, hl, ho⟩
   have ho' : Only (fun y => y = d.p \/ y = d.db \/ y = d.g) w w' := ho.mono fun x _ e => .inl e
   have hm : ∀ x cs, Blk w x 241 cs -> ¬ x = d.p := fun x cs hx e => by subst e; exact Blk.ne_ hx h.at_ (by decide) rfl
   refine ⟨rfl, { d with st := none }, DiIs.more ⟨s.closed, m, bytes, kM, kW, ?_, rfl, H.lists, H.want, rfl, hls _ ho'⟩, Turned.close hn ho'⟩
   exact ⟨hl, ⟨h.ok.may.only ho hm, h.ok.were.only ho hm, h.ok.emp, h.ok.wild, h.ok.bit, h.ok.kM, h.ok.kW⟩, h.dk.only ho (fun y hy e => hpd (e ▸ hy)), h.db, h.calm, h.hz, h.few, h.st, h.lo, h.lt⟩
 | true =>
   rcases h.st with ⟨h0, rfl⟩ | ⟨hd1, tl1, h1, rfl⟩
   . refine (znd (5 * N) d.p d.g 0 kW s m bytes w h.at_ h.ok hdk h.calm hf (by unfold zc8; omega) h0 hg (by omega) (by rw [h.db]; show d.db ≠ 0; omega)).mono ?_
     rintro e w' ⟨rfl, hl, hd, ho⟩
     rw [h.db] at hd ho
     have ho' : Only (fun y => y = d.p \/ y = d.db \/ y = d.g) w w' := ho.mono fun x _ e => by
      rcases e with e | e
      . exact .inl e
      . exact .inr (.inl e)
     have hm : ∀ x cs, Blk w x 241 cs -> ¬ (x = d.p \/ x = d.db) := fun x cs hx e => by
      rcases e with e | e
      . subst e; exact Blk.ne_ hx h.at_ (by decide) rfl
      . subst e; exact Blk.ne_ hx h.dk.at_ (by decide) rfl
     refine ⟨rfl, { d with st := none }, ⟨s.closed, zbo m 2, bytes, 0, kW, ?_, rfl, H.lists, H.want, rfl, (hls _ ho').more⟩, Turned.close hn ho'⟩
     exact ⟨hl, ⟨h.ok.may.only ho hm, h.ok.were.only ho hm, h.ok.emp, h.ok.wild, h.ok.bit, h.ok.kM, h.ok.kW⟩, hd.more (by omega), h.db, zb9 h.calm 2, h.hz.mono (by omega), by omega, .inl ⟨h0, rfl⟩, h.lo, h.lt⟩
   . refine (zne (5 * N) d.p d.g 0 kW s m bytes hd1 tl1 w h.at_ h.ok hdk h.calm hf (by unfold zc8; omega) h1 (h.hz.heads hd1 (by rw [h1]; simp)).1 (by omega)).mono ?_
     rintro e w' ⟨may', were', xb, dk, rd, rfl, hl, hok, hnew, hzx, hzd, hzr, hd, ho⟩
     rw [h.db] at hd ho hnew
     have hn' := (zel s.n).1 hf
     have hxr : rd ≠ xb := hnew.rd.ne_blk hnew.db
     have hown : ({ d with st := some ⟨xb, dk, rd, .slice none 0 0, []⟩ } : DiI).own = d.base ++ [xb, rd] := by simp [DiI.own, DiI.sown, DiI.base, StI.own, Value.ownBlock]
     refine ⟨rfl, { d with st := some ⟨xb, dk, rd, .slice none 0 0, []⟩ }, ⟨{ s.closed with may := may', were := were', x := .pointer (some ⟨xb, 0, none⟩), c := .slice none 0 0, commits := 0 }, zbo m 3, bytes, 1, kW + 1, ?_, rfl, H.lists, H.want, ?_, (hls _ ho).more⟩, rfl, ?_, ?_, ho.mono fun y _ hy => by rcases hy with rfl | rfl | rfl <;> simp [DiI.own, DiI.base]⟩
     . exact ⟨hl, hok, hd.more (by omega), h.db, zb9 h.calm 3, h.hz.mono (by omega), by omega, .inr ⟨hd1, tl1, h1, rfl⟩, h.lo, h.lt⟩
     . exact ⟨rfl, rfl, rfl, rfl, ⟨hnew.db, hnew.rd, ⟨hd1, hnew.dk⟩, World.ownsRow_nil _ _ _ _, fun τ hτ => by (cases hτ), Nat.zero_le _, Nat.zero_le _, Nat.zero_le _, by show s.n <= 400; omega⟩⟩
     . intro y hy
       rw [hown] at hy
       rw [DiI.own, List.mem_append]
       simp only [List.mem_append, List.mem_cons, List.not_mem_nil, or_false] at hy
       rcases hy with k | k | k
       . exact .inl (.inl k)
       . exact .inr (by omega)
       . exact .inr (by omega)
     . rw [hown]
       refine List.nodup_append.2 ⟨DiI.base_nodup hn, by simp [hxr.symm], fun a ha b hb e => ?_⟩
       have hla := (H.own a (by rw [DiI.own, List.mem_append]; exact .inl ha)).lt
       simp only [List.mem_cons, List.not_mem_nil, or_false] at hb
       rcases hb with k | k <;> omega
end
end Go.Proofs.YtemondlgcmpbbaaGreatDoor
