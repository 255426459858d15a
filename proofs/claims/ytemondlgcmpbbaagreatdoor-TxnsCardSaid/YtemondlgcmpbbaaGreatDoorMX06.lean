/- Pl Ap As: merged. -/
import Derived.Test.YtemondlgcmpbbaaGreatDoorMX05
import Derived.Laws.MakeOwn
import Derived.LaidEql
import Derived.Stop.Asserts
import Derived.RowKitTokens
namespace Go.Proofs.YtemondlgcmpbbaaGreatDoor
open Go.RowKit
set_option maxRecDepth 100000
def Hz (c : Nat -> List UInt8) (G : Nat) : Prop := ∀ i, i < 2 -> pOk (c i) = true -> pBlk (c i) = 0 /\ pGen (c i) <= G
theorem Hz.mono {c : Nat -> List UInt8} {G G' : Nat} (h : Hz c G) (hg : G <= G') : Hz c G' := fun i hi ho => ⟨(h i hi ho).1, Nat.le_trans (h i hi ho).2 hg⟩
theorem zjw (c : Nat -> List UInt8) : headUp c 2 = (if pOk (c 0) then [headOf 0 (c 0)] else []) ++ (if pOk (c 1) then [headOf 1 (c 1)] else []) := by
 unfold headUp headUp headUp; simp
theorem Hz.heads {c : Nat -> List UInt8} {G : Nat} (h : Hz c G) : ∀ x ∈ zay c, x.blk = 0 /\ x.gen <= G := by
 intro x hx
 have := ze1 c x hx
 rw [zjw] at this
 rcases List.mem_append.1 this with h1 | h1
 . split at h1
   . rename_i ho
     rw [List.mem_singleton.1 h1]
     exact h 0 (by omega) ho
   . cases h1
 . split at h1
   . rename_i ho
     rw [List.mem_singleton.1 h1]
     exact h 1 (by omega) ho
   . cases h1
theorem zka (gen : Nat) (hg : gen < 4294967296) : (zbx gen 0 0).length = 32 /\ ∀ r, pGen (zbx gen 0 0 ++ r) = gen /\ pBlk (zbx gen 0 0 ++ r) = 0 /\ pRgen (zbx gen 0 0 ++ r) = 0 /\ zek (zbx gen 0 0 ++ r) = 827479123 /\ zd7 ((zbx gen 0 0 ++ r).take 32) = true := by
 have hl : (zbx gen 0 0).length = 32 := rfl
 refine ⟨hl, fun r => ?_⟩
 have ht : (zbx gen 0 0 ++ r).take 32 = zbx gen 0 0 := by rw [<- hl, List.take_left]
 unfold pGen pBlk pRgen zek
 rw [ht]
 have h0 : zbx gen 0 0 = le4 (crcN ((ziy gen 0 0).drop 4)) ++ (le4 827479123 ++ (le4 gen ++ (le4 0 ++ (le4 0 ++ List.replicate 12 0)))) := rfl
 refine ⟨?_, ?_, ?_, ?_, ?_⟩
 . rw [h0]; exact zfd gen hg _
 . rw [h0]; exact zfd 0 (by omega) _
 . rw [h0]; exact zfd 0 (by omega) _
 . rw [h0]; exact zfd 827479123 (by omega) _
 . unfold zbx; exact zlg _
theorem zty (gen : Nat) (h0 : 0 < gen) (h1 : gen < 1073741824) : pOk (pad 128 (zbx gen 0 0)) = true /\ pGen (pad 128 (zbx gen 0 0)) = gen /\ pBlk (pad 128 (zbx gen 0 0)) = 0 := by
 obtain ⟨_, hh⟩ := zka gen (by omega)
 obtain ⟨a1, a2, a3, a4, a5⟩ := hh (List.replicate (128 - (zbx gen 0 0).length) 0)
 unfold pad
 refine ⟨?_, a1, a2⟩
 unfold pOk
 rw [a1, a2, a3, a4, a5]
 simp [h0, h1]
theorem zfn (bytes : List UInt8) (i : Nat) : zal bytes [] i = (bytes.drop (i * 128)).take 128 := rfl
theorem zi2 {bytes : List UInt8} {n s : Nat} {x : List UInt8} (hl : bytes.length = n * 128) (hs : s < n) (hx : x.length = 128) : zal (zea bytes (s, x)) [] s = x := by
 rw [zfn]
 unfold zea
 simp only
 have h1 : (bytes.take (s * 128)).length = s * 128 := by rw [List.length_take]; omega
 rw [List.append_assoc, List.drop_append_of_le_length (by omega), List.drop_of_length_le (by omega), List.nil_append, List.take_append_of_le_length (by omega), List.take_of_length_le (by omega)]
theorem zig {bytes : List UInt8} {n s i : Nat} {x : List UInt8} (hl : bytes.length = n * 128) (hs : s < n) (_hi : i < n) (hx : x.length = 128) (hne : i ≠ s) : zal (zea bytes (s, x)) [] i = zal bytes [] i := by
 rw [zfn, zfn]
 unfold zea
 simp only
 apply List.ext_getElem?
 intro j
 simp only [List.getElem?_take, List.getElem?_drop]
 split
 . rename_i hj
   have h1 : (bytes.take (s * 128)).length = s * 128 := by rw [List.length_take]; omega
   rcases Nat.lt_or_gt_of_ne hne with h | h
   . rw [List.append_assoc, List.getElem?_append_left (by omega), List.getElem?_take, if_pos (by omega)]
   . rw [List.getElem?_append_right (by simp only [List.length_append, h1, hx]; omega), List.getElem?_drop]
     congr 1
     simp only [List.length_append, h1, hx]
     omega
 . rfl
theorem zli {bytes : List UInt8} {n G : Nat} (hl : bytes.length = n * 128) (hn : 8 <= n) (hz : Hz (zal bytes []) G) (hG : G + 1 < 1073741824) :
   ∃ hd tl, zay (zal (zeb bytes [] (zau (zay (zal bytes [])))) []) = hd :: tl /\ hd.blk = 0 /\ Hz (zal (zeb bytes [] (zau (zay (zal bytes [])))) []) (G + 1) := by
 obtain ⟨hs, hhs⟩ : ∃ hs, hs = zay (zal bytes []) := ⟨_, rfl⟩
 have hmem : ∀ x ∈ hs, x.slot < 2 /\ x.gen < 1073741824 /\ 0 < x.gen := fun x hx => zei _ 2 x (ze1 _ x (hhs ▸ hx))
 have hle : ∀ x ∈ hs, x.blk = 0 /\ x.gen <= G := fun x hx => hz.heads x (hhs ▸ hx)
 rw [<- hhs]
 have hfl : zcf bytes [] = bytes := rfl
 unfold zeb
 rw [hfl]
 obtain ⟨s, hs0⟩ : ∃ s, s = (zau hs).1 := ⟨_, rfl⟩
 obtain ⟨gn, hg0⟩ : ∃ gn, gn = (zau hs).2 := ⟨_, rfl⟩
 have hslt : s < 2 := by
  rw [hs0]; cases hs with
  | nil => show 0 < 2; omega
  | cons h t => show 1 - h.slot < 2; omega
 have hgb : 0 < gn /\ gn <= G + 1 := by
  rw [hg0]; cases hs with
  | nil => show 0 < 1 /\ 1 <= G + 1; omega
  | cons h t => have := (hle h (by simp)).2; show 0 < h.gen + 1 /\ h.gen + 1 <= G + 1; omega
 rw [<- hs0, <- hg0]
 obtain ⟨p1, p2, p3⟩ := zty gn hgb.1 (by omega)
 have hxl : (pad 128 (zbx gn 0 0)).length = 128 := zgc _ _ (by rw [(zka gn (by omega)).1]; omega)
 obtain ⟨c, hc⟩ : ∃ c, c = zal (zea bytes (s, pad 128 (zbx gn 0 0))) [] := ⟨_, rfl⟩
 have c1 : c s = pad 128 (zbx gn 0 0) := by rw [hc]; exact zi2 hl (by omega) hxl
 have c2 : ∀ i, i < 2 -> i ≠ s -> c i = zal bytes [] i := fun i hi hne => by rw [hc]; exact zig hl (by omega) (by omega) hxl hne
 rw [<- hc]
 have hz' : Hz c (G + 1) := by
  intro i hi ho
  by_cases he : i = s
  . subst he
    rw [c1, p2, p3]; exact ⟨rfl, hgb.2⟩
  . rw [c2 i hi he] at ho ⊢
    exact ⟨(hz i hi ho).1, by have := (hz i hi ho).2; omega⟩
 have hnew : pOk (c s) = true := by rw [c1]; exact p1
 have hng : pGen (c s) = gn := by rw [c1]; exact p2
 have hex : ∃ hd tl, zay c = hd :: tl := by
  unfold zay
  rw [zjw]
  have : s = 0 \/ s = 1 := by omega
  cases e0 : pOk (c 0) <;> cases e1 : pOk (c 1)
  . rcases this with h | h
    . rw [h, e0] at hnew; cases hnew
    . rw [h, e1] at hnew; cases hnew
  . exact ⟨_, _, rfl⟩
  . exact ⟨_, _, rfl⟩
  . simp only [if_true, List.singleton_append]
    unfold zi1
    by_cases hq : (headOf 0 (c 0)).gen < (headOf 1 (c 1)).gen
    . exact ⟨_, _, if_pos hq⟩
    . exact ⟨_, _, if_neg hq⟩
 obtain ⟨hd, tl, he⟩ := hex
 exact ⟨hd, tl, he, (hz'.heads hd (by rw [he]; simp)).1, hz'⟩
theorem zih (i n : Nat) : pOk (zal (List.replicate n 0) [] i) = false := by
 have hm : zek (zal (List.replicate n 0) [] i) = 0 := by
  unfold zek
  rw [zfn, List.drop_replicate, List.take_replicate, List.take_replicate, List.drop_replicate]
  generalize min 32 (min 128 (n - i * 128)) - 4 = k
  match k with
  | 0 => rfl
  | 1 => rfl
  | 2 => rfl
  | 3 => rfl
  | k + 4 => rfl
 unfold pOk
 rw [hm]
 simp
theorem ztz (n G : Nat) : Hz (zal (List.replicate n 0) []) G := fun i _ ho => by rw [zih] at ho; cases ho
theorem zou (n : Nat) : zay (zal (List.replicate n 0) []) = [] := by
 unfold zay
 rw [zjw, zih, zih]
 rfl
def blocksN (n : Int) : Nat := if n < 0 then 0 else (n % 1000).toNat
theorem zov (n : Int) : blocksN n < 1000 := by unfold blocksN; split <;> omega
def Nums.new : Nums := ⟨0, 0, 0, -1, 0, 0⟩
theorem Nums.new_calm : Nums.new.calm := ⟨by decide, by decide⟩
theorem Nums.new_sm (K : Nat) : Nums.new.sm K := ⟨by decide, Int.natCast_nonneg K, by decide, Int.natCast_nonneg K, by decide, Int.natCast_nonneg K⟩
theorem zr1 : (Tryz.prog.info? 111).map (fun i => (i.zero, i.size, i.bytes)) = some (some (.agg (bc (List.replicate 128 0)).toArray), 128, 128) := by kernel_rfl
theorem zi3 (v : Value) (m n : Nat) (hm : 0 < m) : madeCells (List.replicate m v).toArray n = (List.replicate n v).toArray := by
 apply Array.ext'
 unfold madeCells
 rw [Array.toList_map, Array.toList_range]
 have h : ∀ j ∈ List.range n, (List.replicate m v).toArray[j % (List.replicate m v).toArray.size]! = v := fun j _ => by
  have h0 : j % (List.replicate m v).toArray.size < (List.replicate m v).toArray.size := Nat.mod_lt _ (by simpa using hm)
  rw [getElem!_pos (List.replicate m v).toArray _ h0]
  simp
 rw [List.map_congr_left h, List.map_const']
 simp
theorem zn4 (n : Nat) : bc (List.replicate n 0) = List.replicate n (.int .u8 0) := by simp [bc]
theorem zr2 (k : Nat) : madeCells (bc (List.replicate 128 0)).toArray (k * 128) = (bc (List.replicate (k * 128) 0)).toArray := by
 rw [zn4, zn4]
 exact zi3 _ _ _ (by omega)
theorem zh5 (w : World) (k : Nat) (hk : k < 1000) : (Instr.makeSlice 100 (.int .i64 k) (.int .i64 k)).run Tryz.prog w = .ok (.slice (some ⟨w.heap.size, 0, none⟩) k k) (w.alloc (.cells (bc (List.replicate (k * 128) 0)).toArray 111)) := by
 obtain ⟨i0, hi0, hz0, hz1, hz2⟩ := info_parts zr1
 have := run_make (P := Tryz.prog) w 100 111 i0 _ Tryz.underlying100 hi0 hz0 .i64 .i64 k k (by omega) (Int.le_refl _) (by rw [hz2]; omega) (by omega)
 rw [hz1] at this
 simp only [Int.toNat_natCast, Value.cells] at this
 rw [zr2] at this
 exact this
theorem zm6 (n : Int) (base : Nat) (w : World) (hb : base <= w.heap.size) :
   Calls Tryz.prog 49 #[.int .i64 n] w fun e w' => ∃ b g, e = .returned (.pointer (some ⟨b, 0, none⟩)) /\ Dk w' 0 b g base (blocksN n) (.slice none 0 0) Nums.new (List.replicate (blocksN n * 128) 0) [] /\ w.heap.size <= b /\ w.heap.size <= g /\ Below w.heap.size w w' := by
 have fin : ∀ k : Nat, k < 1000 -> k = blocksN n -> ∀ w' : World, w' = ((w.alloc (.cells (bc (List.replicate (k * 128) 0)).toArray 111)).alloc (.cells #[.slice (some ⟨w.heap.size, 0, none⟩) k k, .slice none 0 0, .int .i64 0, .int .i64 0, .int .i64 0, .int .i64 (-1), .int .i64 0, .int .i64 0] 103)) ->
    ∃ b g, Ending.returned (.pointer (some ⟨w.heap.size + 1, 0, none⟩)) = .returned (.pointer (some ⟨b, 0, none⟩)) /\ Dk w' 0 b g base (blocksN n) (.slice none 0 0) Nums.new (List.replicate (blocksN n * 128) 0) [] /\ w.heap.size <= b /\ w.heap.size <= g /\ Below w.heap.size w w' := by
  rintro k hk rfl w' rfl
  have hcb := zn3 (bytes := List.replicate (blocksN n * 128) 0) (n := blocksN n) (by simp)
  refine ⟨w.heap.size + 1, w.heap.size, rfl, ⟨by rw [hcb]; exact Blk.new2 _ _ _ _, (Blk.new w _ _).alloc _, by rw [hcb]; simp, by rw [hcb]; exact Nat.le_refl _, ⟨rfl, .inl ⟨rfl, rfl⟩⟩, (fun x hx => by cases hx), Nat.zero_le _, Nums.new_sm 0, by omega, by simp; omega⟩, by omega, by omega, ((Below.refl _ _).alloc (Nat.le_refl _) _).alloc (by simp) _⟩
 by_cases hn : n < 0
 . have hmk := zh5 w 0 (by omega)
   have h0 : (((0 : Nat) : Int)) = 0 := rfl
   rw [h0] at hmk
   have HF := zaa (fin 0 (by omega) (by unfold blocksN; rw [if_pos hn]))
   clear fin
   go_enter Tryz.func49, Tryz.ntmps49
   go_wp2
   go_ret
   obtain ⟨b, g, h1, h2, h3, h4, h5⟩ := HF.out _ rfl
   first | exact ⟨b, h1, g, h2, h3, h4, h5⟩ | exact ⟨b, g, h1, h2, h3, h4, h5⟩
 . obtain ⟨k, hk⟩ : ∃ k : Nat, n = k := ⟨n.toNat, by omega⟩
   have hmk := zh5 w (k % 1000) (by omega)
   rw [show ((k % 1000 : Nat) : Int) = (k : Int) % 1000 by omega] at hmk
   have HF := zaa (fin (k % 1000) (by omega) (by unfold blocksN; rw [if_neg hn, hk]; omega))
   subst hk
   have ht : Int.tmod (k : Int) 1000 = ((k % 1000 : Nat) : Int) := by rw [Int.tmod_eq_emod_of_nonneg (by omega)]; omega
   clear fin
   go_enter Tryz.func49, Tryz.ntmps49
   go_wp2
   go_ret
   obtain ⟨b, g, h1, h2, h3, h4, h5⟩ := HF.out _ rfl
   first | exact ⟨b, h1, g, h2, h3, h4, h5⟩ | exact ⟨b, g, h1, h2, h3, h4, h5⟩
end Go.Proofs.YtemondlgcmpbbaaGreatDoor
namespace Go.Proofs.YtemondlgcmpbbaaGreatDoor
open Go.RowKit Go.Extern.Stop Go.Stop Go.Extern
set_option maxRecDepth 100000
def Glob (w : World) : Prop := w.cell? ⟨0, 0, none⟩ = some (.iface 214 (.agg #[.pointer (some ⟨1, 31, none⟩)]))
theorem Glob.pos {w : World} (h : Glob w) : 0 < w.heap.size := World.block_lt_of_cell? w _ h
theorem Glob.only {fp : Nat -> Prop} {w w' : World} (h : Glob w) (ho : Only fp w w') (hf : ¬ fp 0) : Glob w' := (ho.cell (p := ⟨0, 0, none⟩) h.pos hf).trans h
theorem Glob.below {w w' : World} (h : Glob w) (hb : Below w.heap.size w w') : Glob w' := h.only (fp := fun _ => False) (Only.of_below hb) id
theorem Glob.alloc {w : World} (h : Glob w) (o : Obj) : Glob (w.alloc o) := zaj o h
theorem zt0 (t : Addr) (w : World) : (ReflectliteValue.unpack (.iface 108 (.pointer (some t)))).run Tryz.prog w
 = .ok (.agg #[.pointer (some ⟨1, 108, none⟩), .pointer (some ⟨w.heap.size, 0, none⟩), .int .u64 150]) (w.alloc (.cells #[.pointer (some t)] 108)) := by kernel_rfl
theorem zu1 (a : Addr) (w : World) : (ReflectliteValue.methodAny (ReflectliteValue.valueError "reflectlite.Value.Type" 0) (fun t _ _ _ => ReflectliteType.toType t) #[.agg #[.pointer (some ⟨1, 108, none⟩), .pointer (some a), .int .u64 150]]).run Tryz.prog w
 = .ok (.iface 214 (.agg #[.pointer (some ⟨1, 108, none⟩)])) w := by kernel_rfl
theorem zm7 (h : Value) (w : World) : (Go.method 431 214 (.agg #[h]) "Kind").run Tryz.prog w = .ok (234, h) w := by kernel_rfl
theorem zu2 (w : World) : ((ReflectliteType.abiMethod fun t => (fun a : Nat => Value.int IntKind.u8 (a : Int)) <$> Rtype.kind t) #[.pointer (some ⟨1, 108, none⟩)]).run Tryz.prog w = .ok (.int .u8 22) w := by kernel_rfl
theorem zu3 (w : World) : ((ReflectliteType.abiMethod fun t => (fun a : Nat => Value.int IntKind.u8 (a : Int)) <$> Rtype.kind t) #[.pointer (some ⟨1, 44, none⟩)]).run Tryz.prog w = .ok (.int .u8 2) w := by kernel_rfl
theorem rlm (z : Sem Value) (f : TypeId -> Addr -> Nat -> Nat -> Sem Value) (v : Value) :
 ReflectliteValue.method z f #[v] = (do match <- ReflectliteValue.parts v with | none => z | some (t, a, fl) => f t a fl (fl % 32)) := rfl
theorem zn5 (a : Addr) (w : World) : (ReflectliteValue.parts (.agg #[.pointer (some ⟨1, 108, none⟩), .pointer (some a), .int .u64 150])).run Tryz.prog w = .ok (some (108, a, 150)) w := by kernel_rfl
theorem zt1 (a p : Addr) (W : World) (ha : W.cell? a = some (.pointer (some p))) :
   (ReflectliteValue.method (ReflectliteValue.valueError "reflectlite.Value.IsNil" 0) ReflectliteValue.isNil #[.agg #[.pointer (some ⟨1, 108, none⟩), .pointer (some a), .int .u64 150]]).run Tryz.prog W = .ok (.bool false) W := by
 rw [rlm]
 simp only [Sem.run_bind, zn5, Result.andThen]
 simp [ReflectliteValue.isNil, loadVar, isAgg, underlying, Tryz.underlying108, ha, Result.andThen]
theorem zm8 (h : Value) (w : World) : (Go.method 431 214 (.agg #[h]) "Elem").run Tryz.prog w = .ok (252, .agg #[h]) w := by kernel_rfl
theorem zh0 (h : Value) (w : World) : (Go.method 431 214 (.agg #[h]) "Implements").run Tryz.prog w = .ok (253, .agg #[h]) w := by kernel_rfl
theorem zh1 (h : Value) (w : World) : (Go.method 431 214 (.agg #[h]) "AssignableTo").run Tryz.prog w = .ok (250, .agg #[h]) w := by kernel_rfl
theorem zk2 (h : Value) (w : World) : (Go.method 431 128 h "Unwrap").run Tryz.prog w = .ok (245, h) w := by kernel_rfl
theorem zvi (w : World) : (ReflectliteType.method ReflectliteType.elem #[.agg #[.pointer (some ⟨1, 108, none⟩)]]).run Tryz.prog w = .ok (.iface 214 (.agg #[.pointer (some ⟨1, 44, none⟩)])) w := by kernel_rfl
theorem zm9 (w : World) : (ReflectliteType.relation "Implements" ReflectliteType.implements_ #[.agg #[.pointer (some ⟨1, 44, none⟩)], .iface 214 (.agg #[.pointer (some ⟨1, 31, none⟩)])]).run Tryz.prog w = .ok (.bool true) w := by kernel_rfl
theorem zr3 (v : Value) (w : World) : (ReflectliteType.typeOf #[.iface 128 v]).run Tryz.prog w = .ok (.iface 214 (.agg #[.pointer (some ⟨1, 128, none⟩)])) w := by kernel_rfl
theorem zr4 (v : Value) (w : World) : (ReflectliteType.typeOf #[.iface 44 v]).run Tryz.prog w = .ok (.iface 214 (.agg #[.pointer (some ⟨1, 44, none⟩)])) w := by kernel_rfl
theorem zr5 (w : World) : (ReflectliteType.relation "AssignableTo" ReflectliteType.assignableTo #[.agg #[.pointer (some ⟨1, 128, none⟩)], .iface 214 (.agg #[.pointer (some ⟨1, 44, none⟩)])]).run Tryz.prog w = .ok (.bool false) w := by kernel_rfl
theorem zr6 (w : World) : (ReflectliteType.relation "AssignableTo" ReflectliteType.assignableTo #[.agg #[.pointer (some ⟨1, 44, none⟩)], .iface 214 (.agg #[.pointer (some ⟨1, 44, none⟩)])]).run Tryz.prog w = .ok (.bool true) w := by kernel_rfl
theorem zt2 (e : Int) (w : World) : (ReflectliteValue.unpack (.iface 44 (.int .i64 e))).run Tryz.prog w
 = .ok (.agg #[.pointer (some ⟨1, 44, none⟩), .pointer (some ⟨w.heap.size, 0, none⟩), .int .u64 130]) (w.alloc (.cells #[.int .i64 e] 44)) := by kernel_rfl
theorem zt3 (w : World) : (Rtype.elem? 108).run Tryz.prog w = .ok (some 44) w := by kernel_rfl
theorem zvv (p : Addr) (w : World) : (ReflectliteValue.mk 44 p ReflectliteValue.flagAddr).run Tryz.prog w = .ok (.agg #[.pointer (some ⟨1, 44, none⟩), .pointer (some p), .int .u64 386]) w := by kernel_rfl
theorem zu4 (a p : Addr) (W : World) (ha : W.cell? a = some (.pointer (some p))) :
   (ReflectliteValue.method (ReflectliteValue.valueError "reflectlite.Value.Elem" 0) ReflectliteValue.elem #[.agg #[.pointer (some ⟨1, 108, none⟩), .pointer (some a), .int .u64 150]]).run Tryz.prog W
    = .ok (.agg #[.pointer (some ⟨1, 44, none⟩), .pointer (some p), .int .u64 386]) W := by
 rw [rlm]
 simp only [Sem.run_bind, zn5, Result.andThen]
 simp [ReflectliteValue.elem, loadVar, isAgg, underlying, Tryz.underlying108, ha, Result.andThen, zt3, zvv]
theorem rls (v x : Value) : ReflectliteValue.set #[v, x] = (do
 let (some (dst, a, fl), some (src, b, _)) := (<- ReflectliteValue.parts v, <- ReflectliteValue.parts x)
  | unsupported (.noEntry "extern/(internal/reflectlite.Value).Set.zeroValue")
 if fl / ReflectliteValue.flagAddr % 2 == 0 then unsupported (.noEntry "extern/(internal/reflectlite.Value).Set.unaddressable")
 let val <- loadVar src b
 if <- Rtype.directlyAssignable dst src then storeVar dst a val
 else if <- Rtype.implements dst src then
  if (<- Rtype.kind src) == 20 then
   match val with
   | .nilIface => unsupported (.noEntry "extern/reflectlite: a nil value of one interface type handed on as a value of another")
   | _ => storeVar dst a val
  else storeVar dst a (.iface src val)
 else panicString ("reflectlite.Set: value of type " ++ (<- Rtype.spelt src) ++ " is not assignable to type " ++ (<- Rtype.spelt dst))
 pure (.tuple #[])) := rfl
theorem zr7 (a : Addr) (w : World) : (ReflectliteValue.parts (.agg #[.pointer (some ⟨1, 44, none⟩), .pointer (some a), .int .u64 386])).run Tryz.prog w = .ok (some (44, a, 386)) w := by kernel_rfl
theorem zt4 (a : Addr) (w : World) : (ReflectliteValue.parts (.agg #[.pointer (some ⟨1, 44, none⟩), .pointer (some a), .int .u64 130])).run Tryz.prog w = .ok (some (44, a, 130)) w := by kernel_rfl
theorem zt5 (w : World) : (Rtype.directlyAssignable 44 44).run Tryz.prog w = .ok true w := by kernel_rfl
theorem zvw (ta b : Addr) (e : Int) (old : Value) (W : World) (hb : W.cell? b = some (.int .i64 e)) (ht : W.cell? ta = some old) (hf : W.frozen? ta = false) :
   (ReflectliteValue.set #[.agg #[.pointer (some ⟨1, 44, none⟩), .pointer (some ta), .int .u64 386], .agg #[.pointer (some ⟨1, 44, none⟩), .pointer (some b), .int .u64 130]]).run Tryz.prog W
    = .ok (.tuple #[]) (W.setCell ta (.int .i64 e)) := by
 rw [rls]
 simp only [Sem.run_bind, zr7, zt4, Result.andThen]
 simp [ReflectliteValue.flagAddr, loadVar, isAgg, underlying, Tryz.underlying44, hb, Result.andThen, zt5, storeVar, Value.cells, storeCells, Addr.add]
 rw [run_store Tryz.prog W ta _ _ (by rfl)]
 simp [ht, hf]
theorem zr8 (v : Value) (xT : TypeId) (w : World) : (Instr.typeAssert (.iface 128 v) xT 219 true).run Tryz.prog w = .ok (.tuple #[.nilIface, .bool false]) w := run_typeAssert_lacksB Tryz.underlying219 (by kernel_rfl) (by kernel_rfl) v xT w
theorem zow (v : Value) (xT : TypeId) (w : World) : (Instr.typeAssert (.iface 128 v) xT 222 true).run Tryz.prog w = .ok (.tuple #[.iface 128 v, .bool true]) w := run_typeAssert_hasB Tryz.underlying222 (by kernel_rfl) v xT w
theorem zox (f e : Nat) (s : ByteArray) (w : World) (h : zao w f s e) :
   Calls Tryz.prog 245 #[.pointer (some ⟨f, 0, none⟩)] w fun v w' => v = .returned (.iface 44 (.int .i64 e)) /\ w = w' := by
 have c1 := zab h 1 rfl
 clear h
 go_enter Tryz.func245, Tryz.ntmps245
 go_wp2
 go_ret
 exact ⟨rfl, rfl⟩
theorem za4 {w w' : World} {a : Addr} {v : Value} (h : w.cell? a = some v) (hb : Below w.heap.size w w') : w'.cell? a = some v := (hb.cell (World.block_lt_of_cell? w _ h)).trans h
set_option maxHeartbeats 4000000 in
theorem zr9 (f e : Nat) (s : ByteArray) (tb : Nat) (z : Int) (w : World) (hF : zao w f s e) (hg : Glob w) (ht : Blk w tb 44 #[.int .i64 z]) :
   Calls Tryz.prog 63 #[zag f, .iface 108 (.pointer (some ⟨tb, 0, none⟩))] w fun ev w' => ev = .returned (.bool true) /\ ∃ w0, Below w.heap.size w w0 /\ w' = w0.setCell ⟨tb, 0, none⟩ (.int .i64 e) := by
 have h6 := @run_callFunc_extern Tryz.prog 98 _ (fun args => ReflectliteValue.unpack (args.getD 0 (.tuple #[]))) Tryz.func98 (by kernel_rfl) (by kernel_rfl) (by kernel_rfl) (by kernel_rfl)
 have h7 := @run_callFunc_extern Tryz.prog 99 _ (ReflectliteValue.methodAny (ReflectliteValue.valueError "reflectlite.Value.Type" 0) (fun t _ _ _ => ReflectliteType.toType t)) Tryz.func99 (by kernel_rfl) (by kernel_rfl) (by kernel_rfl) (by kernel_rfl)
 have h8 := @run_callFunc_extern Tryz.prog 100 _ (ReflectliteValue.method (ReflectliteValue.valueError "reflectlite.Value.IsNil" 0) ReflectliteValue.isNil) Tryz.func100 (by kernel_rfl) (by kernel_rfl) (by kernel_rfl) (by kernel_rfl)
 have h27 := @run_callFunc_extern Tryz.prog 234 _ (ReflectliteType.abiMethod fun t => do pure (.int .u8 (<- Rtype.kind t))) Tryz.func234 (by kernel_rfl) (by kernel_rfl) (by kernel_rfl) (by kernel_rfl)
 have h37 := @run_callFunc_extern Tryz.prog 252 _ (ReflectliteType.method ReflectliteType.elem) Tryz.func252 (by kernel_rfl) (by kernel_rfl) (by kernel_rfl) (by kernel_rfl)
 have h38 := @run_callFunc_extern Tryz.prog 253 _ (ReflectliteType.relation "Implements" ReflectliteType.implements_) Tryz.func253 (by kernel_rfl) (by kernel_rfl) (by kernel_rfl) (by kernel_rfl)
 have h10 := @run_callFunc_extern Tryz.prog 137 _ ReflectliteType.typeOf Tryz.func137 (by kernel_rfl) (by kernel_rfl) (by kernel_rfl) (by kernel_rfl)
 have h35 := @run_callFunc_extern Tryz.prog 250 _ (ReflectliteType.relation "AssignableTo" ReflectliteType.assignableTo) Tryz.func250 (by kernel_rfl) (by kernel_rfl) (by kernel_rfl) (by kernel_rfl)
 have h11 := @run_callFunc_extern Tryz.prog 138 _ (ReflectliteValue.method (ReflectliteValue.valueError "reflectlite.Value.Elem" 0) ReflectliteValue.elem) Tryz.func138 (by kernel_rfl) (by kernel_rfl) (by kernel_rfl) (by kernel_rfl)
 have h12 := @run_callFunc_extern Tryz.prog 139 _ ReflectliteValue.set Tryz.func139 (by kernel_rfl) (by kernel_rfl) (by kernel_rfl) (by kernel_rfl)
 have tF := zr3
 have tE := zr4
 have mA := zh1
 have mU := zk2
 have aF := zr5
 have aE := zr6
 have vE := zt2
 have f6 := zt0
 have f7 := zu1
 have mK := zm7
 have mE := zm8
 have mI := zh0
 have k27 := zu2
 have k25 := zu3
 have e27 := zvi
 have i25 := zm9
 have la := zr8
 have hu := zow
 obtain ⟨vcells, hvc⟩ : ∃ vc, vc = (#[.pointer (some ⟨1, 108, none⟩), .pointer (some ⟨w.heap.size, 0, none⟩), .int .u64 150] : Array Value) := ⟨_, rfl⟩
 have hlt := hg.pos
 have n8 := zt1 ⟨w.heap.size, 0, none⟩ ⟨tb, 0, none⟩ ((w.alloc (.cells #[.pointer (some ⟨tb, 0, none⟩)] 108)).alloc (.cells #[.pointer (some ⟨1, 108, none⟩), .pointer (some ⟨w.heap.size, 0, none⟩), .int .u64 150] 166)) (by simp)
 have hg2 := (hg.alloc (.cells #[.pointer (some ⟨tb, 0, none⟩)] 108)).alloc (.cells #[.pointer (some ⟨1, 108, none⟩), .pointer (some ⟨w.heap.size, 0, none⟩), .int .u64 150] 166)
 unfold Glob at hg2
 obtain ⟨W3, hW3⟩ : ∃ W3, W3 = (((w.alloc (.cells #[.pointer (some ⟨tb, 0, none⟩)] 108)).alloc (.cells #[.pointer (some ⟨1, 108, none⟩), .pointer (some ⟨w.heap.size, 0, none⟩), .int .u64 150] 166)).alloc (.cells #[.pointer (some ⟨1, 108, none⟩), .pointer (some ⟨w.heap.size, 0, none⟩), .int .u64 150] 166)) := ⟨_, rfl⟩
 have hb3 : Below w.heap.size w W3 := by rw [hW3]; exact (((Below.refl _ _).alloc (Nat.le_refl _) _).alloc (by simp) _).alloc (by simp; omega) _
 have hs3 : W3.heap.size = w.heap.size + 1 + 1 + 1 := by rw [hW3]; simp
 have hF3 : zao W3 f s e := hF.below hb3 hF.lt
 have ht3 := ht.below hb3 ht.lt
 have hv3 : W3.cell? ⟨w.heap.size, 0, none⟩ = some (.pointer (some ⟨tb, 0, none⟩)) := by rw [hW3]; exact zaj _ (zaj _ (zab (Blk.new w _ _) 0 rfl))
 have el := zu4 ⟨w.heap.size, 0, none⟩ ⟨tb, 0, none⟩ W3 hv3
 have st := zvw ⟨tb, 0, none⟩ ⟨W3.heap.size, 0, none⟩ e (.int .i64 z) (W3.alloc (.cells #[.int .i64 e] 44)) (by simp) (zab (ht3.alloc _) 0 rfl) ((ht3.alloc _).frozen 0)
 have HF := zaa hF3
 rw [hs3] at st
 have HB := zaa (hb3.alloc (by rw [hs3]; omega) (.cells #[.int .i64 e] 44))
 have HU := zaa (zox f e s W3 hF3)
 have hFs := hF
 clear hF hg ht hFs hF3 ht3 hb3 hlt hvc
 rw [hW3] at el st HU HB hv3
 unfold zag
 go_enter Tryz.func63, Tryz.ntmps63
 go_wp2_with (first | (go_at_call 101; go_in) | (go_at_call 245; refine HU.out.mono ?_; rintro v w' ⟨rfl, rfl⟩))
 refine wp_loop_rounds 2 ?_
 rw [rounds_succ]
 go_wp2_with (first | (go_at_call 245; refine HU.out.mono ?_; rintro v w' ⟨rfl, rfl⟩))
 rw [rounds_succ]
 go_wp2
 go_ret
 exact ⟨rfl, _, HB.out, rfl⟩
end Go.Proofs.YtemondlgcmpbbaaGreatDoor
