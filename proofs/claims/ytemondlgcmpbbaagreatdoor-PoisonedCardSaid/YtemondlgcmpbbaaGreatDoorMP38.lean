/- Walks: api.Disk.After, where nothing waits to be flushed. -/
import Derived.Test.YtemondlgcmpbbaaGreatDoorMP06
namespace Go.Proofs.YtemondlgcmpbbaaGreatDoor
open Go.RowKit
set_option maxRecDepth 100000
section
variable {P : Program} (w : World)
theorem zoq {o : Oper} {a : Act} {K : Act -> World -> Prop} {Q : Exit -> Act -> World -> Prop} (s x : Operand) (t : TypeId)
   (ho : o.op = .call { callee := .builtin .append, args := #[s, x], argTypes := #[t, t] })
   (e : TypeId) (i : TypeInfo) (z : Value) (ht : P.underlying t = some (.slice e)) (hi : P.info? e = some i) (hz : i.zero = some z)
   (hs : a.eval s = .slice none 0 0) (ad : Addr) (n c : Nat) (hx : a.eval x = .slice (some ad) n c) (news : List Value) (hl : news.length = n * i.size) (hnews : ∀ j v, news[j]? = some v -> w.cell? (ad.add j) = some v)
   (h0 : 0 < n) (h63 : (n : Int) <= 9223372036854775807) (h48 : n * i.bytes <= 281474976710656)
   (h : K (a.put o.dst (.slice (some ⟨w.heap.size, 0, none⟩) n (grownCap w n 0 e))) (w.drew.alloc (.cells (news.toArray ++ Builtin.zeroCells z.cells (grownCap w n 0 e - n)) e))) : o.wp P a w K Q := by
 have hr := run_append_nil (P := P) w t o.type e i z ht hi hz ad n c news hl hnews h0 h63 h48
 unfold Oper.wp execOp
 simp only [ho, resolve, invoke, builtin, Sem.run_bind, Sem.run_pure, Result.andThen_ok, List.map_toArray, List.map_cons, List.map_nil, hs, hx, hr]
 exact h
theorem zjz {ops : Array Oper} {rest : List Oper} {o : Oper} {a : Act} {Q : Exit -> Act -> World -> Prop} (hgd : o.guard = none) (s x : Operand) (t : TypeId)
   (ho : o.op = .call { callee := .builtin .append, args := #[s, x], argTypes := #[t, t] })
   (e : TypeId) (i : TypeInfo) (z : Value) (ht : P.underlying t = some (.slice e)) (hi : P.info? e = some i) (hz : i.zero = some z)
   (hs : a.eval s = .slice none 0 0) (ad : Addr) (n c : Nat) (hx : a.eval x = .slice (some ad) n c) (news : List Value) (hl : news.length = n * i.size) (hnews : ∀ j v, news[j]? = some v -> w.cell? (ad.add j) = some v)
   (h0 : 0 < n) (h63 : (n : Int) <= 9223372036854775807) (h48 : n * i.bytes <= 281474976710656)
   (h : wpList P ops Q rest (a.put o.dst (.slice (some ⟨w.heap.size, 0, none⟩) n (grownCap w n 0 e))) (w.drew.alloc (.cells (news.toArray ++ Builtin.zeroCells z.cells (grownCap w n 0 e - n)) e))) : wpList P ops Q (o :: rest) a w :=
 wpList_plain hgd fun _ hK => zoq w s x t ho e i z ht hi hz hs ad n c hx news hl hnews h0 h63 h48 (hK _ _ h)
end
theorem z3c (k : Nat) : Builtin.zeroCells (Value.agg (bc (List.replicate 128 0)).toArray).cells k = (bc (List.replicate (k * 128) 0)).toArray := by
 rw [<- zoz]
 have h : (Value.agg (bc (List.replicate 128 0)).toArray).cells = (bc (List.replicate 128 0)).toArray := rfl
 have h2 : (bc (List.replicate 128 0)).toArray.size = 128 := by rw [List.size_toArray, zal, List.length_replicate]
 rw [h]
 unfold Builtin.zeroCells madeCells
 rw [h2]
def zev (bytes : List UInt8) (n c : Nat) : List UInt8 := bytes.take (n * 128) ++ List.replicate ((c - n) * 128) 0
theorem zr5 {bytes : List UInt8} {n c : Nat} (h : n * 128 <= bytes.length) (hc : n <= c) : (zev bytes n c).length = c * 128 := by
 unfold zev
 rw [List.length_append, List.length_take, List.length_replicate, Nat.min_eq_left h, <- Nat.add_mul, Nat.add_sub_cancel' hc]
theorem zq1 {bytes : List UInt8} {n c i : Nat} (h : n * 128 <= bytes.length) (hi : i < n) : dread (zev bytes n c) [] i = dread bytes [] i := by
 unfold dread zev
 simp only [List.foldl_nil]
 have h1 : i * 128 + 128 <= n * 128 := by omega
 rw [List.drop_append_of_le_length (by rw [List.length_take]; omega), List.take_append_of_le_length (by rw [List.length_drop, List.length_take]; omega), List.drop_take, List.take_take]
 congr 1
 omega
end Go.Proofs.YtemondlgcmpbbaaGreatDoor
