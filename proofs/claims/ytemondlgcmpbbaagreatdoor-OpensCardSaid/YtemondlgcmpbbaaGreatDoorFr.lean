/- Frames: only blocks of a set, and new ones, have changed. -/
import Derived.Test.YtemondlgcmpbbaaGreatDoorBase
import Derived.Deep.MidRow
namespace Go.Proofs.YtemondlgcmpbbaaGreatDoor
open Go.RowKit

/-- Old blocks beside those of fp are as they were. -/
structure Only (fp : Nat → Prop) (w w' : World) : Prop where
  os : w'.os = w.os
  tape : w'.tape = w.tape
  output : w'.output = w.output
  size : w.heap.size ≤ w'.heap.size
  block : ∀ x, x < w.heap.size → ¬ fp x → w'.heap[x]? = w.heap[x]?

section
variable {fp fq : Nat → Prop} {a b c w w' : World}
theorem Only.refl (fp : Nat → Prop) (w : World) : Only fp w w := ⟨rfl, rfl, rfl, Nat.le_refl _, fun _ _ _ => rfl⟩
theorem Only.trans (h : Only fp a b) (k : Only fp b c) : Only fp a c :=
  ⟨k.os.trans h.os, k.tape.trans h.tape, k.output.trans h.output, Nat.le_trans h.size k.size, fun x hx hn => (k.block x (Nat.lt_of_lt_of_le hx h.size) hn).trans (h.block x hx hn)⟩
theorem Only.mono (h : Only fp a b) (hs : ∀ x, x < a.heap.size → fp x → fq x) : Only fq a b :=
  ⟨h.os, h.tape, h.output, h.size, fun x hx hn => h.block x hx fun hf => hn (hs x hx hf)⟩
theorem Only.trans' (h : Only fp a b) (k : Only fq b c) (hs : ∀ x, x < a.heap.size → fq x → fp x) : Only fp a c :=
  ⟨k.os.trans h.os, k.tape.trans h.tape, k.output.trans h.output, Nat.le_trans h.size k.size, fun x hx hn => (k.block x (Nat.lt_of_lt_of_le hx h.size) fun hf => hn (hs x hx hf)).trans (h.block x hx hn)⟩
theorem Only.of_below (h : Below a.heap.size a b) : Only fp a b := ⟨h.os, h.tape, h.output, h.size, fun x hx _ => h.block x hx⟩
theorem Only.below (h : Only fp a b) (k : Below b.heap.size b c) : Only fp a c := h.trans (Only.of_below k)
theorem Only.to_below (h : Only fp a b) {B : Nat} (hB : B ≤ a.heap.size) (hf : ∀ x, fp x → B ≤ x) : Below B a b := ⟨h.os, h.tape, h.output, h.size, fun x hx => h.block x (by omega) fun k => by have := hf x k; omega⟩
theorem Only.to_below' (h : Only (fun _ => False) a b) : Below a.heap.size a b := h.to_below (Nat.le_refl _) fun _ k => k.elim
theorem Only.setCell (h : Only fp a b) {p : Addr} (hp : fp p.block ∨ a.heap.size ≤ p.block) (u : Value) : Only fp a (b.setCell p u) :=
  ⟨h.os, h.tape, h.output, by simpa [World.setCell] using h.size, fun x hx hn => (Below.heap_setCell b p u x (fun e => by subst e; rcases hp with hp | hp; exact hn hp; omega)).trans (h.block x hx hn)⟩
theorem Only.alloc (h : Only fp a b) (o : Obj) : Only fp a (b.alloc o) := h.below ((Below.refl _ _).alloc (Nat.le_refl _) o)
theorem Only.drew (h : Only fp a b) : Only fp a b.drew := ⟨h.os, h.tape, h.output, h.size, h.block⟩
theorem Only.drewN (h : Only fp a b) (n : Nat) : Only fp a (b.drewN n) := ⟨h.os, h.tape, h.output, h.size, h.block⟩
theorem Only.grown (h : Only fp a b) {row : Option Nat} (k : b.grownBy c row) (hr : ∀ g, row = some g → fp g ∨ a.heap.size ≤ g) : Only fp a c :=
  ⟨k.os.trans h.os, k.tape.trans h.tape, k.output.trans h.output, Nat.le_trans h.size k.size, fun x hx hn => (k.block x (Nat.lt_of_lt_of_le hx h.size) fun e => by rcases hr x e.symm with h1 | h1; exact hn h1; omega).trans (h.block x hx hn)⟩
theorem Only.blk (h : Only fp a b) {g : Nat} {t : TypeId} {cs : Array Value} (hb : Blk a g t cs) (hg : ¬ fp g) : Blk b g t cs := (h.block g hb.lt hg).trans hb
theorem Only.cell (h : Only fp a b) {p : Addr} (hp : p.block < a.heap.size) (hg : ¬ fp p.block) : b.cell? p = a.cell? p := World.cell?_of_block (h.block p.block hp hg)
end

theorem Only.set1 (w : World) (g i : Nat) (u : Value) : Only (· = g) w (w.setCell ⟨g, i, none⟩ u) := Only.setCell (fp := (· = g)) (p := ⟨g, i, none⟩) (Only.refl _ _) (.inl rfl) u
theorem Only.set2 {g : Nat} {a b : World} (h : Only (· = g) a b) (i : Nat) (u : Value) : Only (· = g) a (b.setCell ⟨g, i, none⟩ u) := Only.setCell (fp := (· = g)) (p := ⟨g, i, none⟩) h (.inl rfl) u
theorem Blk.only {fp : Nat → Prop} {w w' : World} {g : Nat} {t : TypeId} {cs : Array Value} (hb : Blk w g t cs) (h : Only fp w w') (hg : ¬ fp g) : Blk w' g t cs := h.blk hb hg
theorem cellA {w : World} {a : Addr} {v : Value} (o : Obj) (h : w.cell? a = some v) : (w.alloc o).cell? a = some v := by
  rw [World.cell?_alloc_lt _ _ _ (World.block_lt_of_cell? w _ h)]; exact h
theorem Blk.new2 (w : World) (o : Obj) (t : TypeId) (cs : Array Value) : Blk ((w.alloc o).alloc (.cells cs t)) (w.heap.size + 1) t cs := by
  have := Blk.new (w.alloc o) t cs
  rwa [World.size_alloc] at this
theorem cellOf {w : World} {g : Nat} {t : TypeId} {cs : Array Value} {v : Value} (h : Blk w g t cs) (i : Nat) (hi : cs[i]? = some v) : w.cell? ⟨g, i, none⟩ = some v := by rw [h.cell]; exact hi
end Go.Proofs.YtemondlgcmpbbaaGreatDoor
