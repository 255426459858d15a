/- Mu Rd: merged. -/
import Derived.Test.YtemondlgcmpbbaaGreatDoorMX01
import Derived.Conc.MuLone
import Derived.KernelRfl
import Derived.LaidEqlPtr
import Derived.Maps.OwnSet
namespace Go.Proofs.YtemondlgcmpbbaaGreatDoor
open Go.RowKit Go.Conc.Locks
set_option maxRecDepth 100000
abbrev zu5 : MuLink := { lock := 51, unlock := 52, ilock := 78, iunlock := 79, lockSlow := 114, unlockSlow := 117, disable := 110, enable := 112, acquire := 113, relMerge := 115, cas32 := 111, add32 := 116, tMutex := 84, tIMutex := 82, tPMutex := 127, tPIMutex := 188, tPI32 := 190, tUP := 163, tNoCopy := 79, tU32 := 80 }
theorem ztm : MuLib Tryz.prog zu5 :=
 ⟨Tryz.func51, Tryz.func52, Tryz.func78, Tryz.func79, Tryz.func110, Tryz.func112, Tryz.func113, Tryz.func115, Tryz.func111, Tryz.func116, Tryz.underlying82, Tryz.runUnderlying82, Tryz.sizeOf82, Tryz.isAgg82, Tryz.zeroValue82, Tryz.underlying84, Tryz.runUnderlying84, Tryz.sizeOf84, Tryz.isAgg84, Tryz.zeroValue84, Tryz.underlying127, Tryz.runUnderlying127, Tryz.sizeOf127, Tryz.isAgg127, Tryz.zeroValue127, Tryz.underlying188, Tryz.runUnderlying188, Tryz.sizeOf188, Tryz.isAgg188, Tryz.zeroValue188, Tryz.underlying190, Tryz.runUnderlying190, Tryz.sizeOf190, Tryz.isAgg190, Tryz.zeroValue190, Tryz.underlying163, Tryz.runUnderlying163, Tryz.sizeOf163, Tryz.isAgg163, Tryz.zeroValue163, Tryz.underlying79, Tryz.runUnderlying79, Tryz.sizeOf79, Tryz.isAgg79, Tryz.zeroValue79, Tryz.underlying21, Tryz.runUnderlying21, Tryz.sizeOf21, Tryz.isAgg21, Tryz.zeroValue21, (by kernel_rfl)⟩
end Go.Proofs.YtemondlgcmpbbaaGreatDoor
namespace Go.Proofs.YtemondlgcmpbbaaGreatDoor
open Go.RowKit
set_option maxRecDepth 100000
def pk (k : Nat) : Value := .pointer (some ⟨k, 0, none⟩)
def RdAt (w : World) (rd : Nat) (ks : List Nat) : Prop := ∃ es clk, w.heap[rd]? = some (.map es clk) /\ es.toList.map (·.key) = ks.map pk /\ (∀ e ∈ es.toList, e.born < clk) /\ (es.toList.map (·.born)).Nodup
def TxB (w : World) (k : Nat) : Prop := ∃ cs, Blk w k 94 cs
theorem RdAt.lt {w : World} {rd : Nat} {ks : List Nat} (h : RdAt w rd ks) : rd < w.heap.size := by
 obtain ⟨es, clk, h, _⟩ := h
 exact (Array.getElem?_eq_some_iff.1 h).1
theorem RdAt.only {w w' : World} {rd : Nat} {ks : List Nat} {fp : Nat -> Prop} (h : RdAt w rd ks) (ho : Only fp w w') (hf : ¬ fp rd) : RdAt w' rd ks := by
 have hl := h.lt
 obtain ⟨es, clk, h, hk⟩ := h
 exact ⟨es, clk, (ho.block rd hl hf).trans h, hk⟩
theorem RdAt.ne_blk {w : World} {rd g : Nat} {ks : List Nat} {t : TypeId} {cs : Array Value} (h : RdAt w rd ks) (hb : Blk w g t cs) : rd ≠ g := by
 rintro rfl
 obtain ⟨es, clk, h, _⟩ := h
 unfold Blk at hb
 rw [h] at hb
 cases hb
theorem RdAt.new (w : World) : RdAt (w.alloc (.map #[] 0)) w.heap.size [] := ⟨#[], 0, heap_alloc_new w _, rfl, by simp, by simp⟩
theorem zlj : (Tryz.prog.info? 94).map (fun i => decide (i.size = 0)) = some false := by kernel_rfl
section
variable {w : World} {x : Nat}
theorem zt6 (d : Nat) : (Op.equalIn (d + 1) 29 (pk x) (pk x)).run Tryz.prog w = .ok true w := by
 obtain ⟨j, hj, _⟩ := Option.map_eq_some_iff.1 zlj
 simp [pk, Op.equalIn, run_underlying Tryz.underlying29, sizeOf, typeInfo, hj, run_sameAddr_same]
theorem zsa (d : Nat) {y : Nat} (hx : TxB w x) (hy : TxB w y) (hne : x ≠ y) : (Op.equalIn (d + 1) 29 (pk x) (pk y)).run Tryz.prog w = .ok false w := by
 obtain ⟨j, hj, hz⟩ := Option.map_eq_some_iff.1 zlj
 obtain ⟨ca, ha⟩ := hx
 obtain ⟨cb, hb⟩ := hy
 have hsz : j.size ≠ 0 := by simp at hz; exact hz
 simp [pk, Op.equalIn, run_underlying Tryz.underlying29, sizeOf, typeInfo, hj, hsz, run_sameAddr_other w (a := ⟨x, 0, none⟩) (b := ⟨y, 0, none⟩) (fun e => hne (by injection e)) ha hb]
theorem zlk (hx : TxB w x) : ∀ (ks : List Nat) (es : List MapEntry) (i : Nat), es.map (·.key) = ks.map pk -> (∀ k ∈ ks, TxB w k) ->
   (x ∉ ks -> (Instr.findAsking 29 (pk x) es i).run Tryz.prog w = .ok none w) /\ (x ∈ ks -> ∃ v, (Instr.findAsking 29 (pk x) es i).run Tryz.prog w = .ok (some (i + ks.idxOf x, v)) w)
 | [], [], i, _, _ => ⟨fun _ => by simp [Instr.findAsking], fun h => by cases h⟩
 | k :: ks, [], i, h, _ => by simp at h
 | [], e :: es, i, h, _ => by simp at h
 | k :: ks, e :: es, i, h, hk => by
   simp only [List.map_cons, List.cons.injEq] at h
   have ih := zlk hx ks es (i + 1) h.2 fun y hy => hk y (by simp [hy])
   have hask : (Instr.findAsking 29 (pk x) (e :: es) i) = (do if <- Op.equal 29 (pk x) e.key then pure (some (i, e.val)) else Instr.findAsking 29 (pk x) es (i + 1)) := rfl
   by_cases he : x = k
   . subst he
     refine ⟨fun hn => absurd (List.mem_cons_self) hn, fun _ => ⟨e.val, ?_⟩⟩
     rw [hask, h.1]
     simp [Op.equal, Op.maxDepth, zt6 9999, Result.andThen]
   . have h2 : (Op.equal 29 (pk x) e.key).run Tryz.prog w = .ok false w := by
       rw [h.1]; exact zsa 9999 hx (hk k (by simp)) he
     have h3 : (Instr.findAsking 29 (pk x) (e :: es) i).run Tryz.prog w = (Instr.findAsking 29 (pk x) es (i + 1)).run Tryz.prog w := by
      rw [hask]
      simp [h2, Result.andThen]
     rw [h3]
     refine ⟨fun hn => ih.1 fun hh => hn (by simp [hh]), fun hh => ?_⟩
     have hm : x ∈ ks := by
      rcases List.mem_cons.1 hh with h | h
      . exact absurd h he
      . exact h
     obtain ⟨v, hv⟩ := ih.2 hm
     refine ⟨v, ?_⟩
     rw [hv]
     have : (k :: ks).idxOf x = ks.idxOf x + 1 := by
      rw [List.idxOf_cons]
      have : (k == x) = false := by simpa using fun h => he h.symm
      rw [this]; rfl
     rw [this, show i + 1 + ks.idxOf x = i + (ks.idxOf x + 1) by omega]
theorem zll (hx : TxB w x) (ks : List Nat) (es : List MapEntry) (h : es.map (·.key) = ks.map pk) (hk : ∀ k ∈ ks, TxB w k) :
   (x ∉ ks -> (Instr.findKey 29 (pk x) es).run Tryz.prog w = .ok none w) /\ (x ∈ ks -> ∃ v, (Instr.findKey 29 (pk x) es).run Tryz.prog w = .ok (some (ks.idxOf x, v)) w) := by
 have ha := zlk hx ks es 0 h hk
 cases es with
 | nil =>
   have : ks = [] := by cases ks with | nil => rfl | cons _ _ => simp at h
   subst this
   exact ⟨fun _ => by simp [Instr.findKey, Instr.findNow, run_underlying Tryz.underlying29], fun h => by cases h⟩
 | cons e es =>
   have : (Instr.findKey 29 (pk x) (e :: es)).run Tryz.prog w = (Instr.findAsking 29 (pk x) (e :: es) 0).run Tryz.prog w := by
    simp [Instr.findKey, Instr.findNow, Instr.sameNow, run_underlying Tryz.underlying29]
   rw [this]
   simpa using ha
theorem zoy (b : Bool) (n : Nat) : (Instr.checkKey b (n + 1) 29 (pk x)).run Tryz.prog w = .ok () w := by
 simp [Instr.checkKey, run_underlying Tryz.underlying29, pk]
theorem zha (b : Bool) : (Instr.checkKey b 10000 29 (pk x)).run Tryz.prog w = .ok () w := zoy b 9999
theorem zu6 {rd : Nat} {ks : List Nat} (h : RdAt w rd ks) (hk : ∀ k ∈ ks, TxB w k) (hx : TxB w x) (hn : x ∉ ks) (v : Value) :
   ∃ w', (Instr.mapUpdate 89 (.map (some rd)) (pk x) v).run Tryz.prog w = .ok () w' /\ RdAt w' rd (ks ++ [x]) /\ Only (· = rd) w w' /\ w'.heap.size = w.heap.size := by
 obtain ⟨es, clk, hb, he, hbn, hnd⟩ := h
 have hf := (zll hx ks es.toList he hk).1 hn
 refine ⟨ChangeMaps.setBlock w rd (.map (es.push { key := pk x, val := v, born := clk }) (clk + 1)), ?_, ⟨_, _, ChangeMaps.heap_setBlock_same hb _, ?_, ?_, ?_⟩, ⟨rfl, rfl, rfl, by simp [ChangeMaps.setBlock], fun i _ hi => ChangeMaps.heap_setBlock_other hb _ hi⟩, by simp [ChangeMaps.setBlock]⟩
 . simp [Instr.mapUpdate, run_underlying Tryz.underlying89, MapKept.run_getObj_map hb, zha, hf, MapKept.run_setObj_map _ hb, Result.andThen, ChangeMaps.setBlock]
 . simp [he]
 . intro e h
   rw [Array.toList_push] at h
   rcases List.mem_append.1 h with h | h
   . exact Nat.lt_succ_of_lt (hbn e h)
   . rw [List.mem_singleton.1 h]; exact Nat.lt_succ_self _
 . rw [Array.toList_push, List.map_append]
   refine List.nodup_append.2 ⟨hnd, by simp, fun a ha b hb' e => ?_⟩
   obtain ⟨m, hm, rfl⟩ := List.mem_map.1 ha
   have := hbn m hm
   simp only [List.map_cons, List.map_nil, List.mem_singleton] at hb'
   omega
theorem zii (l : List MapEntry) (i : Nat) : (l.eraseIdx i).map (·.key) = (l.map (·.key)).eraseIdx i := by
 induction l generalizing i with
 | nil => rfl
 | cons a l ih => cases i with
   | zero => rfl
   | succ i => simp [List.eraseIdx_cons_succ, ih]
theorem zna (l : List Nat) (i : Nat) : (l.map pk).eraseIdx i = (l.eraseIdx i).map pk := by
 induction l generalizing i with
 | nil => rfl
 | cons a l ih => cases i with
   | zero => rfl
   | succ i => simp [List.eraseIdx_cons_succ, ih]
theorem zn6 {rd : Nat} {ks : List Nat} (h : RdAt w rd ks) (hk : ∀ k ∈ ks, TxB w k) (hx : TxB w x) (ty : TypeId) :
   ∃ w', (Builtin.delete_ #[89, 29] ty #[.map (some rd), pk x]).run Tryz.prog w = .ok (.tuple #[]) w' /\ RdAt w' rd (ks.erase x) /\ Only (· = rd) w w' /\ w'.heap.size = w.heap.size := by
 obtain ⟨es, clk, hb, he, hbn, hnd⟩ := h
 have hf := zll hx ks es.toList he hk
 by_cases hm : x ∈ ks
 . obtain ⟨v, hv⟩ := hf.2 hm
   refine ⟨ChangeMaps.setBlock w rd (.map (es.eraseIdxIfInBounds (ks.idxOf x)) clk), ?_, ⟨_, _, ChangeMaps.heap_setBlock_same hb _, ?_, ?_, ?_⟩, ⟨rfl, rfl, rfl, by simp [ChangeMaps.setBlock], fun i _ hi => ChangeMaps.heap_setBlock_other hb _ hi⟩, by simp [ChangeMaps.setBlock]⟩
   . simp [Builtin.delete_, run_underlying Tryz.underlying89, MapKept.run_getObj_map hb, zha, hv, MapKept.run_setObj_map _ hb, Result.andThen, ChangeMaps.setBlock]
   . rw [Array.toList_eraseIdxIfInBounds, zii, he, zna, List.erase_eq_eraseIdx_of_idxOf]
     rfl
   . intro e h
     rw [Array.toList_eraseIdxIfInBounds] at h
     exact hbn e (List.mem_of_mem_eraseIdx h)
   . rw [Array.toList_eraseIdxIfInBounds]
     exact hnd.sublist ((List.eraseIdx_sublist ..).map _)
 . have h1 := hf.1 hm
   refine ⟨ChangeMaps.setBlock w rd (.map es clk), ?_, ⟨_, _, ChangeMaps.heap_setBlock_same hb _, ?_, hbn, hnd⟩, ⟨rfl, rfl, rfl, by simp [ChangeMaps.setBlock], fun i _ hi => ChangeMaps.heap_setBlock_other hb _ hi⟩, by simp [ChangeMaps.setBlock]⟩
   . simp [Builtin.delete_, run_underlying Tryz.underlying89, MapKept.run_getObj_map hb, zha, h1, MapKept.run_setObj_map _ hb, Result.andThen, ChangeMaps.setBlock]
   . rw [he, List.erase_of_not_mem hm]
theorem zqi {rd : Nat} {ks : List Nat} (h : RdAt w rd ks) (ty : TypeId) : (Builtin.len_ #[89] ty #[.map (some rd)]).run Tryz.prog w = .ok (.int .i64 ks.length) w := by
 obtain ⟨es, clk, hb, he, _⟩ := h
 have : es.size = ks.length := by have := congrArg List.length he; simpa using this
 rw [<- this]
 simp [Builtin.len_, run_underlying Tryz.underlying89, MapKept.run_getObj_map hb, goInt, Result.andThen]
end
end Go.Proofs.YtemondlgcmpbbaaGreatDoor
