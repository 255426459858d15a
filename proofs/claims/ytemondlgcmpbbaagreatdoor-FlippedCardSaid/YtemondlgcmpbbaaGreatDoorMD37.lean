/- Walks: api.Disk.After, where nothing waits to be flushed. -/
import Derived.Test.YtemondlgcmpbbaaGreatDoorMD06
namespace Go.Proofs.YtemondlgcmpbbaaGreatDoor
open Go.RowKit
set_option maxRecDepth 100000
section
variable {P : Program} (w : World)
theorem wp_append_nil {o : Oper} {a : Act} {K : Act -> World -> Prop} {Q : Exit -> Act -> World -> Prop} (s x : Operand) (t : TypeId)
   (ho : o.op = .call { callee := .builtin .append, args := #[s, x], argTypes := #[t, t] })
   (e : TypeId) (i : TypeInfo) (z : Value) (ht : P.underlying t = some (.slice e)) (hi : P.info? e = some i) (hz : i.zero = some z)
   (hs : a.eval s = .slice none 0 0) (ad : Addr) (n c : Nat) (hx : a.eval x = .slice (some ad) n c) (news : List Value) (hl : news.length = n * i.size) (hnews : ∀ j v, news[j]? = some v -> w.cell? (ad.add j) = some v)
   (h0 : 0 < n) (h63 : (n : Int) <= 9223372036854775807) (h48 : n * i.bytes <= 281474976710656)
   (h : K (a.put o.dst (.slice (some ⟨w.heap.size, 0, none⟩) n (grownCap w n 0 e))) (w.drew.alloc (.cells (news.toArray ++ Builtin.zeroCells z.cells (grownCap w n 0 e - n)) e))) : o.wp P a w K Q := by
 have hr := run_append_nil (P := P) w t o.type e i z ht hi hz ad n c news hl hnews h0 h63 h48
 unfold Oper.wp execOp
 simp only [ho, resolve, invoke, builtin, Sem.run_bind, Sem.run_pure, Result.andThen_ok, List.map_toArray, List.map_cons, List.map_nil, hs, hx, hr]
 exact h
theorem wpList_append_nil {ops : Array Oper} {rest : List Oper} {o : Oper} {a : Act} {Q : Exit -> Act -> World -> Prop} (hgd : o.guard = none) (s x : Operand) (t : TypeId)
   (ho : o.op = .call { callee := .builtin .append, args := #[s, x], argTypes := #[t, t] })
   (e : TypeId) (i : TypeInfo) (z : Value) (ht : P.underlying t = some (.slice e)) (hi : P.info? e = some i) (hz : i.zero = some z)
   (hs : a.eval s = .slice none 0 0) (ad : Addr) (n c : Nat) (hx : a.eval x = .slice (some ad) n c) (news : List Value) (hl : news.length = n * i.size) (hnews : ∀ j v, news[j]? = some v -> w.cell? (ad.add j) = some v)
   (h0 : 0 < n) (h63 : (n : Int) <= 9223372036854775807) (h48 : n * i.bytes <= 281474976710656)
   (h : wpList P ops Q rest (a.put o.dst (.slice (some ⟨w.heap.size, 0, none⟩) n (grownCap w n 0 e))) (w.drew.alloc (.cells (news.toArray ++ Builtin.zeroCells z.cells (grownCap w n 0 e - n)) e))) : wpList P ops Q (o :: rest) a w :=
 wpList_plain hgd fun _ hK => wp_append_nil w s x t ho e i z ht hi hz hs ad n c hx news hl hnews h0 h63 h48 (hK _ _ h)
end
theorem zeroB (k : Nat) : Builtin.zeroCells (Value.agg (bc (List.replicate 128 0)).toArray).cells k = (bc (List.replicate (k * 128) 0)).toArray := by
 rw [<- madeZero]
 have h : (Value.agg (bc (List.replicate 128 0)).toArray).cells = (bc (List.replicate 128 0)).toArray := rfl
 have h2 : (bc (List.replicate 128 0)).toArray.size = 128 := by rw [List.size_toArray, bc_length, List.length_replicate]
 rw [h]
 unfold Builtin.zeroCells madeCells
 rw [h2]
def widened (bytes : List UInt8) (n c : Nat) : List UInt8 := bytes.take (n * 128) ++ List.replicate ((c - n) * 128) 0
theorem widened_len {bytes : List UInt8} {n c : Nat} (h : n * 128 <= bytes.length) (hc : n <= c) : (widened bytes n c).length = c * 128 := by
 unfold widened
 rw [List.length_append, List.length_take, List.length_replicate, Nat.min_eq_left h, <- Nat.add_mul, Nat.add_sub_cancel' hc]
theorem widened_read {bytes : List UInt8} {n c i : Nat} (h : n * 128 <= bytes.length) (hi : i < n) : dread (widened bytes n c) [] i = dread bytes [] i := by
 unfold dread widened
 simp only [List.foldl_nil]
 have h1 : i * 128 + 128 <= n * 128 := by omega
 rw [List.drop_append_of_le_length (by rw [List.length_take]; omega), List.take_append_of_le_length (by rw [List.length_drop, List.length_take]; omega), List.drop_take, List.take_take]
 congr 1
 omega
set_option maxHeartbeats 1000000 in
theorem after_any {K b g base base' n kn kc : Nat} {A : Option Addr} {m : Nums} {bytes : List UInt8} {w : World} (h : Dk w K b g base n (.slice none 0 0) m bytes []) (hn : 0 < n) (hb' : base' <= w.heap.size) :
   Calls Tryz.prog 34 #[.pointer (some ⟨b, 0, none⟩), .slice A kn kc] w fun e w' => ∃ b' g' bytes', e = .returned (.pointer (some ⟨b', 0, none⟩)) /\ Dk w' 0 b' g' base' n (.slice none 0 0) Nums.new bytes' [] /\ (∀ i, i < n -> dread bytes' [] i = dread bytes [] i) /\ w.heap.size <= b' /\ w.heap.size <= g' /\ Below w.heap.size w w' := by
 have hle : n * 128 <= bytes.length := by rw [h.len]; exact Nat.mul_le_mul_right _ h.cap
 have h1000 := h.fits
 have c0 := cellOf h.at_ 0 rfl
 have c1 := cellOf h.at_ 1 rfl
 obtain ⟨i0, hi0, hz0, hz1, hz2⟩ := info_parts info_arr
 have hge := grownCap_ge w n 0 111
 have hfin : ∀ w' : World, w' = (((w.drew.alloc (.cells ((bc (bytes.take (n * 128))).toArray ++ Builtin.zeroCells (Value.agg (bc (List.replicate 128 0)).toArray).cells (grownCap w n 0 111 - n)) 111))).alloc (.cells #[.slice (some ⟨w.heap.size, 0, none⟩) n (grownCap w n 0 111), .slice none 0 0, .int .i64 0, .int .i64 0, .int .i64 0, .int .i64 (-1), .int .i64 0, .int .i64 0] 103)) ->
     ∃ b' g' bytes', Ending.returned (.pointer (some ⟨w.heap.size + 1, 0, none⟩)) = .returned (.pointer (some ⟨b', 0, none⟩)) /\ Dk w' 0 b' g' base' n (.slice none 0 0) Nums.new bytes' [] /\ (∀ i, i < n -> dread bytes' [] i = dread bytes [] i) /\ w.heap.size <= b' /\ w.heap.size <= g' /\ Below w.heap.size w w' := by
   rintro w' rfl
   have hcb := capB_eq (widened_len hle hge)
   have hcells : (bc (bytes.take (n * 128))).toArray ++ Builtin.zeroCells (Value.agg (bc (List.replicate 128 0)).toArray).cells (grownCap w n 0 111 - n) = (bc (widened bytes n (grownCap w n 0 111))).toArray := by
     rw [zeroB]
     unfold widened
     rw [bc_app]
     simp
   rw [hcells]
   refine ⟨w.heap.size + 1, w.heap.size, widened bytes n (grownCap w n 0 111), rfl, ⟨?_, ?_, ?_, ?_, ⟨rfl, .inl ⟨rfl, rfl⟩⟩, (fun x hx => by cases hx), Nat.zero_le _, Nums.new_sm 0, h.fits, by simp; omega⟩, fun i hi => widened_read hle hi, by omega, Nat.le_refl _, ((Below.drew (Below.refl _ _)).alloc (by simp) _).alloc (by simp) _⟩
   . rw [hcb]; exact Blk.new2 w.drew _ _ _
   . exact (Blk.new w.drew _ _).alloc _
   . rw [hcb]; exact widened_len hle hge
   . rw [hcb]; exact hge
 have HF := hide hfin
 have hsrc : ∀ j v, (bc (bytes.take (n * 128)))[j]? = some v -> w.cell? ((⟨g, 0, none⟩ : Addr).add j) = some v := fun j v hv => by
   rw [Addr.add_lit, Nat.zero_add]
   refine cellOf h.blk j ?_
   rw [bc_take, List.getElem?_take] at hv
   split at hv
   . simpa using hv
   . cases hv
 have HS := hide hsrc
 have hcW : (w.drew.alloc (.cells ((bc (bytes.take (n * 128))).toArray ++ Builtin.zeroCells (Value.agg (bc (List.replicate 128 0)).toArray).cells (grownCap w n 0 111 - n)) 111)).cell? ⟨b, 1, none⟩ = some (.slice none 0 0) := cellOf (Blk.alloc (w := w.drew) h.at_ _) 1 rfl
 have HC := hide hcW
 have HI0 := hide hi0
 have HZ0 := hide hz0
 have HZ1 := hide hz1
 have HZ2 := hide hz2
 have HL := hide (show (bytes.take (n * 128)).length = n * 128 by rw [List.length_take, Nat.min_eq_left hle])
 clear h hi0 hz0 hz1 hz2 hfin hsrc hge hcW c1
 go_enter Tryz.func34, Tryz.ntmps34
 go_wp2_with (first
   | (at_builtin
      refine wpList_append_nil _ rfl _ _ 100 rfl 111 i0 _ Tryz.underlying100 HI0.out HZ0.out rfl ⟨g, 0, none⟩ n _ rfl (bc (bytes.take (n * 128))) (by rw [bc_length, HL.out, HZ1.out]) HS.out hn (by omega) (by rw [HZ2.out]; omega) ?_
      obtain ⟨W, hW⟩ : ∃ W, W = w.drew.alloc (.cells ((bc (bytes.take (n * 128))).toArray ++ Builtin.zeroCells (Value.agg (bc (List.replicate 128 0)).toArray).cells (grownCap w n 0 111 - n)) 111) := ⟨_, rfl⟩
      rw [<- hW]
      have c1W : W.cell? ⟨b, 1, none⟩ = some (.slice none 0 0) := by rw [hW]; exact HC.out
      have c1A := fun o1 => cellA o1 c1W
      have hWs : W.heap.size = w.heap.size + 1 := by rw [hW]; simp
      have HW := hide hW
      clear hW))
 go_loopw [21] (fun v wr => v = .int .i64 0 /\ wr = W.alloc (.cells #[.slice (some ⟨w.heap.size, 0, none⟩) n (grownCap w n 0 111), .slice none 0 0, .int .i64 0, .int .i64 0, .int .i64 0, .int .i64 (-1), .int .i64 0, .int .i64 0] 103)) (fun _ _ => 0)
 case atStart => exact ⟨rfl, rfl⟩
 case round =>
   obtain ⟨rfl, rfl⟩ := hrel
   go_wp2
   go_ret
   obtain ⟨b', g', bytes', h1, h2⟩ := HF.out _ (by rw [<- HW.out])
   exact ⟨b', g', bytes', h1, h2⟩
end Go.Proofs.YtemondlgcmpbbaaGreatDoor
