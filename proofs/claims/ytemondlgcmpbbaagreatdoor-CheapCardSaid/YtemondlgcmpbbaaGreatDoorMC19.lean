/- Walks: Split. -/
import Derived.Test.YtemondlgcmpbbaaGreatDoorMC18
namespace Go.Proofs.YtemondlgcmpbbaaGreatDoor
open Go.RowKit

theorem reads_cut {w : World} {T : TypeId} {g o c n : Nat} {xs : List Value} (h : SlC w T (.slice (some ⟨g, o, none⟩) n c) n xs) (k : Nat) (hk : k ≤ n) :
    Reads w w.heap.size 2 (some ⟨g, o, none⟩) k (xs.take (k * 2)) ∧ Reads w w.heap.size 2 (some ⟨g, o + k * 2, none⟩) (n - k) (xs.drop (k * 2)) := by
  have hr := h.reads
  have hl := hr.1
  refine ⟨⟨by rw [List.length_take]; omega, fun h0 => ?_⟩, ⟨by rw [List.length_drop]; omega, fun h0 => ?_⟩⟩
  · obtain ⟨ad, hA, hb, hc⟩ := hr.2 (by omega)
    injection hA with hA
    subst hA
    refine ⟨_, rfl, hb, fun j u hu => hc j u ?_⟩
    rw [List.getElem?_take] at hu
    split at hu
    · exact hu
    · cases hu
  · obtain ⟨ad, hA, hb, hc⟩ := hr.2 (by omega)
    injection hA with hA
    subst hA
    refine ⟨_, rfl, hb, fun j u hu => ?_⟩
    rw [List.getElem?_drop] at hu
    have := hc _ u hu
    rw [Addr.add_lit] at this ⊢
    rw [Nat.add_assoc]
    exact this

theorem pcells_take (es : List (Str × Str)) (k : Nat) : (pcells es).take (k * 2) = pcells (es.take k) := by
  induction es generalizing k with
  | nil => simp [pcells]
  | cons e es ih =>
    cases k with
    | zero => simp [pcells]
    | succ k =>
      have := ih k
      simp only [pcells, List.take_succ_cons, List.flatMap_cons, show (k + 1) * 2 = k * 2 + 1 + 1 by omega, List.cons_append, List.nil_append] at *
      rw [this]
theorem pcells_drop (es : List (Str × Str)) (k : Nat) : (pcells es).drop (k * 2) = pcells (es.drop k) := by
  induction es generalizing k with
  | nil => simp [pcells]
  | cons e es ih =>
    cases k with
    | zero => simp [pcells]
    | succ k =>
      have := ih k
      simp only [pcells, List.drop_succ_cons, List.flatMap_cons, show (k + 1) * 2 = k * 2 + 1 + 1 by omega, List.cons_append, List.nil_append] at *
      exact this
theorem kcells_take {K : Type} : ∀ (es : List (Str × K)) (bs : List Nat) (k : Nat), (kcells es bs).take (k * 2) = kcells (es.take k) (bs.take k)
  | [], _, k => by simp [kcells]
  | e :: es, [], k => by cases k <;> simp [kcells]
  | e :: es, b :: bs, 0 => by simp [kcells]
  | e :: es, b :: bs, k + 1 => by
    have := kcells_take es bs k
    simp only [kcells, List.take_succ_cons, show (k + 1) * 2 = k * 2 + 1 + 1 by omega]
    rw [this]
theorem kcells_drop {K : Type} : ∀ (es : List (Str × K)) (bs : List Nat) (k : Nat), (kcells es bs).drop (k * 2) = kcells (es.drop k) (bs.drop k)
  | [], _, k => by simp [kcells]
  | e :: es, [], k => by cases k <;> simp [kcells]
  | e :: es, b :: bs, 0 => by simp [kcells]
  | e :: es, b :: bs, k + 1 => by
    have := kcells_drop es bs k
    simp only [kcells, List.drop_succ_cons, show (k + 1) * 2 = k * 2 + 1 + 1 by omega]
    exact this

/-- An empty node's block. -/
theorem firstKey_at {K : Type} (es : List (Str × K)) (h : 0 < es.length) : firstKey es = es[0].1 := by
  cases es with
  | nil => simp at h
  | cons e es => rfl

theorem cell_alloc {w : World} {a : Addr} {v : Value} (o : Obj) (h : w.cell? a = some v) : (w.alloc o).cell? a = some v :=
  (((Below.refl w.heap.size w).alloc (Nat.le_refl _) o).cell (World.block_lt_of_cell? w a h)).trans h

theorem own_far {w : World} {base s n : Nat} {T : TypeId} {v : Value} {xs : List Value} (h : w.ownsRow base T s v n xs) {g : Nat} (hg : g < base) : v.ownBlock ≠ some g := by
  rcases h.2 with ⟨rfl, _⟩ | ⟨G, cap, cur, rfl, hb, _⟩
  · simp [Value.ownBlock]
  · simp only [Value.ownBlock, ne_eq, Option.some.injEq]; omega

set_option maxRecDepth 100000 in
set_option maxHeartbeats 1600000 in
theorem split_walk0 (es : List (Str × Str)) (b blk gen g o c k c2 : Nat) (d : Bool) (A2 : Option Addr) (w : World) (hnode : NodeAt w b blk gen d (.slice (some ⟨g, o, none⟩) es.length c) (.slice A2 0 c2)) (hps : SlC w 68 (.slice (some ⟨g, o, none⟩) es.length c) es.length (pcells es))
    (hk : half (es.map lsz) = k) (h1 : 1 ≤ k) (h2 : k < es.length) (hnc : es.length ≤ c) (_hcm : c ≤ maxLen) (hn : es.length ≤ 1000) (hs : (es.map lsz).sum ≤ 100000) :
    Calls Tryz.prog 86 #[P b] w fun e w' => ∃ A1 d1 A2 d2, e = .returned (.tuple #[P (w.heap.size + 1), .agg #[.string (firstKey (es.drop k)), P (w.heap.size + 1 + 1)]]) ∧
      Blk w' (w.heap.size + 1) 137 #[.int .i64 0, .int .u32 0, .bool true, .slice A1 k d1, .slice none 0 0] ∧ Blk w' (w.heap.size + 1 + 1) 137 #[.int .i64 0, .int .u32 0, .bool true, .slice A2 (es.length - k) d2, .slice none 0 0] ∧
      w'.ownsRow w.heap.size 68 2 (.slice A1 k d1) k (pcells (es.take k)) ∧ w'.ownsRow w.heap.size 68 2 (.slice A2 (es.length - k) d2) (es.length - k) (pcells (es.drop k)) ∧ Below w.heap.size w w' := by
  have c3 : w.cell? ⟨b, 3, none⟩ = some (.slice (some ⟨g, o, none⟩) es.length c) := by rw [Blk.cell hnode]; rfl
  have hblt := Blk.lt hnode
  have hcut := fun (W : World) (hW : SlC W 68 (.slice (some ⟨g, o, none⟩) es.length c) es.length (pcells es)) => reads_cut hW k (by omega)
  rw [pcells_take, pcells_drop] at hcut
  have hone1 := pcells_one (es.take k)
  have hone2 := pcells_one (es.drop k)
  unfold maxLen at _hcm
  have q1 : k ≤ c := by omega
  have q2 : ¬ c = k := by omega
  have q3 : k ≤ es.length := by omega
  have hl1 : k ≤ 1000 := by omega
  have hl2 : es.length - k ≤ 1000 := by omega
  have c3' := fun o1 o2 o3 => cell_alloc o3 (cell_alloc o2 (cell_alloc o1 c3))
  have HCUT := hide hcut
  have H1 := hide hone1
  have H2 := hide hone2
  have HN := hide hnode
  have HP := hide hps
  have HK := hide hk
  have HS := hide hs
  clear hcut hone1 hone2 hnode hps hk hs
  unfold P
  go_enter Tryz.func86, Tryz.ntmps86
  go_wp2_with (first
    | (go_at_call 81; refine (leaf_yes b blk gen c2 d _ A2 _ (((HN.out.alloc _).alloc _).alloc _)).mono ?_; rintro e w' ⟨rfl, rfl⟩)
    | (go_at_call 126; refine (half_pair es _ c _ (HP.out.keep immP (Keep.of_below ((((Below.refl _ _).alloc (Nat.le_refl _) _).alloc (by simp) _).alloc (by simp; omega) _))) (by omega) hn HS.out).mono ?_; rintro e w1 ⟨rfl, hb1⟩; rw [HK.out]))
  have hz1 : w.heap.size + 1 + 1 + 1 ≤ w1.heap.size := by have := hb1.size; simp at this; omega
  have hw1 : Below w.heap.size w w1 := ((((Below.refl _ _).alloc (Nat.le_refl _) _).alloc (by simp) _).alloc (by simp; omega) _).trans (hb1.mono (by simp; omega))
  have g1 : Blk w1 (w.heap.size + 1) 137 #[.int .i64 0, .int .u32 0, .bool true, .slice none 0 0, .slice none 0 0] := Blk.below ((by have := Blk.new (w.alloc (Obj.cells #[.string ⟨#[]⟩, .pointer none] 139)) 137 #[.int .i64 0, .int .u32 0, .bool true, .slice none 0 0, .slice none 0 0]; simp only [World.size_alloc] at this; exact this.alloc _)) hb1 (by simp)
  have g2 : Blk w1 (w.heap.size + 1 + 1) 137 #[.int .i64 0, .int .u32 0, .bool true, .slice none 0 0, .slice none 0 0] := Blk.below ((by have := Blk.new ((w.alloc (Obj.cells #[.string ⟨#[]⟩, .pointer none] 139)).alloc (Obj.cells #[.int .i64 0, .int .u32 0, .bool true, .slice none 0 0, .slice none 0 0] 137)) 137 #[.int .i64 0, .int .u32 0, .bool true, .slice none 0 0, .slice none 0 0]; simp only [World.size_alloc] at this; exact this)) hb1 (by simp)
  have c31 : w1.cell? ⟨b, 3, none⟩ = some (.slice (some ⟨g, o, none⟩) es.length c) := (hw1.cell hblt).trans c3
  have hsl1 : SlC w1 68 (.slice (some ⟨g, o, none⟩) es.length c) es.length (pcells es) := HP.out.keep immP (Keep.of_below hw1)
  have HSL := hide hsl1
  have G1 := hide g1
  have G2 := hide g2
  clear g1 g2 hsl1
  have hz2 : b < w1.heap.size := by omega
  have hne1 : (⟨w.heap.size + 1, 3, none⟩ : Addr) ≠ ⟨b, 3, none⟩ := fun e => by injection e with e; omega
  have hne2 : (⟨w.heap.size + 1 + 1, 3, none⟩ : Addr) ≠ ⟨b, 3, none⟩ := fun e => by injection e with e; omega
  go_region_held3 (fun w' => w'.cell? ⟨b, 3, none⟩ = some (.slice (some ⟨g, o, none⟩) es.length c)) (first | go_keep | (rw [hb2.cell hz2]; assumption) | (rw [hb3.cell (Nat.lt_of_lt_of_le hz2 hb2.size)]; rw [hb2.cell hz2]; assumption) | (rw [World.cell?_setCell_other _ _ _ _ hne1]; assumption) | (rw [World.cell?_setCell_other _ _ _ _ hne2]; assumption))
    (first
      | (go_at_call 128
         ((with_reducible refine (clone_pair' (some ⟨g, o, none⟩) k c (pcells (es.take k)) _ (HCUT.out _ HSL.out).1.drew H1.out hl1 (by simp)).mono ?_)
          rintro e w2 ⟨A1', c1', rfl, hm1, ho1, hb2⟩
          have hb2' : Below w1.heap.size w1.drew w2 := hb2
          have hz3 : w1.heap.size ≤ w2.heap.size := hb2.size
          have hr2 := (((HCUT.out _ HSL.out).2.drew.below hb2').more hz3).drew))
      | (go_at_call 128
         ((with_reducible refine (clone_pair' (some ⟨g, o + k * 2, none⟩) (es.length - k) (c - k) (pcells (es.drop k)) _ hr2 H2.out hl2 (by simp)).mono ?_)
          rintro e w3 ⟨A2', c2', rfl, hm2, ho2, hb3⟩
          have s1 : Blk w3 (w.heap.size + 1) 137 #[.int .i64 0, .int .u32 0, .bool true, .slice none 0 0, .slice none 0 0] := (G1.out.drew.below hb2 (by show _ < w1.heap.size; omega)).below hb3 (by have := hb2.size; have : w1.heap.size ≤ w2.heap.size := this; omega)
          have s2 : Blk w3 (w.heap.size + 1 + 1) 137 #[.int .i64 0, .int .u32 0, .bool true, .slice none 0 0, .slice none 0 0] := (G2.out.drew.below hb2 (by show _ < w1.heap.size; omega)).below hb3 (by have := hb2.size; have : w1.heap.size ≤ w2.heap.size := this; omega)
          have x1 : w3.cell? ⟨w.heap.size + 1, 3, none⟩ = some (.slice none 0 0) := by rw [s1.cell]; rfl
          have x2 : w3.cell? ⟨w.heap.size + 1 + 1, 3, none⟩ = some (.slice none 0 0) := by rw [s2.cell]; rfl
          have y1 : w3.frozen? ⟨w.heap.size + 1, 3, none⟩ = false := s1.frozen 3
          have y2 : w3.frozen? ⟨w.heap.size + 1 + 1, 3, none⟩ = false := s2.frozen 3
          have S1 := hide s1
          have S2 := hide s2
          clear s1 s2)))
  go_wp2_with fail
  have hz5 : w2.heap.size ≤ w3.heap.size := hb3.size
  have g0 : Blk w3 w.heap.size 139 #[.string ⟨#[]⟩, .pointer none] := by
    have h0 : Blk w1 w.heap.size 139 #[.string ⟨#[]⟩, .pointer none] := Blk.below (((Blk.new w 139 #[.string ⟨#[]⟩, .pointer none]).alloc _).alloc _) hb1 (by simp; omega)
    exact (h0.drew.below hb2' (by omega)).below hb3 (by omega)
  obtain ⟨g2, o2, u, v, hA2, hu, hv, e1, e2, hg2⟩ := (SlC.of_own ho2).cells_at (Below.refl _ _) (k := 0) (by omega)
  subst hA2
  obtain ⟨G, cur, hGe, hGe0, hGb⟩ : ∃ G cur, (Value.slice (some ⟨g2, o2, none⟩) (es.length - k) c2' : Value) = .slice (some ⟨G, 0, none⟩) (es.length - k) c2' ∧ w2.heap.size ≤ G ∧ Blk w3 G 68 cur := by
    rcases ho2.2 with ⟨h, _⟩ | ⟨G, cap, cur, hv, hb, hg, _⟩
    · cases h
    · injection hv with h1 h2 h3
      exact ⟨G, cur, by rw [h1], hb, hg⟩
  injection hGe with hGe
  injection hGe with hGe
  injection hGe with hGe ho
  subst hGe
  subst ho
  have hge : w2.heap.size ≤ g2 := hGe0
  have n1 : g2 ≠ w.heap.size := by omega
  have n2 : g2 ≠ w.heap.size + 1 := by omega
  have n3 : g2 ≠ w.heap.size + 1 + 1 := by omega
  have hk0 := pcells_at (es.drop k) 0 (by rw [List.length_drop]; omega)
  rw [hk0.1] at hu
  injection hu with hu
  subst hu
  rw [← firstKey_at] at e1
  obtain ⟨w4, hw4⟩ : ∃ w4, w4 = ((w3.setCell ⟨w.heap.size + 1, 3, none⟩ (.slice A1' k c1')).setCell ⟨w.heap.size + 1 + 1, 3, none⟩ (.slice (some ⟨g2, 0, none⟩) (es.length - k) c2')) := ⟨_, rfl⟩
  rw [← hw4]
  have v1 : w4.cell? ⟨w.heap.size + 1 + 1, 3, none⟩ = some (.slice (some ⟨g2, 0, none⟩) (es.length - k) c2') := by
    rw [hw4]
    have := ((S2.out.far (p := ⟨w.heap.size + 1, 3, none⟩) (by simp) (.slice A1' k c1')).set_ 3 (.slice (some ⟨g2, 0, none⟩) (es.length - k) c2'))
    rw [this.cell]; rfl
  have v2 : w4.cell? ⟨g2, 0, none⟩ = some (.string (firstKey (es.drop k))) := by
    rw [hw4, World.cell?_setCell_other _ _ _ _ (fun e => by injection e with e; omega), World.cell?_setCell_other _ _ _ _ (fun e => by injection e with e; omega)]
    exact e1
  have v3 : Blk w4 w.heap.size 139 #[.string ⟨#[]⟩, .pointer none] := by
    rw [hw4]
    exact (g0.far (by simp) _).far (by simp; omega) _
  have v4 : w4.cell? ⟨w.heap.size, 0, none⟩ = some (.string ⟨#[]⟩) := by rw [v3.cell]; rfl
  have v5 : w4.cell? ⟨w.heap.size, 1, none⟩ = some (.pointer none) := by rw [v3.cell]; rfl
  have v6 : w4.frozen? ⟨w.heap.size, 0, none⟩ = false := v3.frozen 0
  have v7 : w4.frozen? ⟨w.heap.size, 1, none⟩ = false := v3.frozen 1
  have V3 := hide v3
  have W4 := hide hw4
  have G0 := hide g0
  have HG := hide hGb
  clear v3 hw4 g0 hGb x1 x2 y1 y2 e1 e2 hr2
  go_region
  obtain ⟨w5, hw5⟩ : ∃ w5, w5 = ((w4.setCell ⟨w.heap.size, 0, none⟩ (.string (firstKey (es.drop k)))).setCell ⟨w.heap.size, 1, none⟩ (P (w.heap.size + 1 + 1))) := ⟨_, rfl⟩
  unfold P at hw5
  rw [← hw5]
  have f0 : Blk w5 w.heap.size 139 #[.string (firstKey (es.drop k)), P (w.heap.size + 1 + 1)] := by
    rw [hw5]
    exact (V3.out.set_ 0 _).set_ 1 _
  have f1 : w5.cell? ⟨w.heap.size, 0, none⟩ = some (.string (firstKey (es.drop k))) := by rw [f0.cell]; rfl
  have f2 : w5.cell? ⟨w.heap.size, 1, none⟩ = some (P (w.heap.size + 1 + 1)) := by rw [f0.cell]; rfl
  have W5 := hide hw5
  clear hw5 f0
  unfold P at f2
  go_wp2_with fail
  refine bodyPost_ret (v := .tuple #[P (w.heap.size + 1), .agg #[.string (firstKey (es.drop k)), P (w.heap.size + 1 + 1)]]) (by simp [results, Tryz.results86, go_sem, f1, f2]) rfl ⟨rfl, A1', c1', ?_, some ⟨g2, 0, none⟩, c2', ?_, ?_, ?_, ?_⟩
  · rw [W5.out, W4.out]
    exact ((((S1.out.set_ 3 _).far (by simp) _).far (by simp) _).far (by simp) _)
  · rw [W5.out, W4.out]
    exact ((((S2.out.far (by simp) _).set_ 3 _).far (by simp; omega) _).far (by simp; omega) _)
  · rw [W5.out, W4.out]
    have h := own_below ho1 hb3
    have hzz : w1.heap.size ≤ w2.heap.size := hz3
    have m0 := own_far h (g := w.heap.size) (by first | (show _ < w1.heap.size; omega) | (show _ < w2.heap.size; omega))
    have m1 := own_far h (g := w.heap.size + 1) (by first | (show _ < w1.heap.size; omega) | (show _ < w2.heap.size; omega))
    have m2 := own_far h (g := w.heap.size + 1 + 1) (by first | (show _ < w1.heap.size; omega) | (show _ < w2.heap.size; omega))
    exact own_base (ownsRow_setCell_other (ownsRow_setCell_other (ownsRow_setCell_other (ownsRow_setCell_other h m1 _) m2 _) m0 _) m0 _) (by have := hw1.size; exact this)
  · rw [W5.out, W4.out]
    have h := ho2
    have hzz : w1.heap.size ≤ w2.heap.size := hz3
    have m0 := own_far h (g := w.heap.size) (by first | (show _ < w1.heap.size; omega) | (show _ < w2.heap.size; omega))
    have m1 := own_far h (g := w.heap.size + 1) (by first | (show _ < w1.heap.size; omega) | (show _ < w2.heap.size; omega))
    have m2 := own_far h (g := w.heap.size + 1 + 1) (by first | (show _ < w1.heap.size; omega) | (show _ < w2.heap.size; omega))
    exact own_base (ownsRow_setCell_other (ownsRow_setCell_other (ownsRow_setCell_other (ownsRow_setCell_other h m1 _) m2 _) m0 _) m0 _) (by have := hw1.size; have : w1.heap.size ≤ w2.heap.size := hz3; show w.heap.size ≤ w2.heap.size; omega)
  · rw [W5.out, W4.out]
    have h1 : Below w1.heap.size w1 w2 := (Below.refl _ w1).drew.trans hb2'
    have h2 : Below w.heap.size w w3 := (hw1.trans (h1.mono (by omega))).trans (hb3.mono (by omega))
    exact ((((h2.setCell (p := ⟨w.heap.size + 1, 3, none⟩) (Nat.le_add_right _ _) _).setCell (p := ⟨w.heap.size + 1 + 1, 3, none⟩) (Nat.le_add_right _ 2) _).setCell (p := ⟨w.heap.size, 0, none⟩) (Nat.le_refl _) _).setCell (p := ⟨w.heap.size, 1, none⟩) (Nat.le_refl _) _).drew

set_option maxRecDepth 100000 in
set_option maxHeartbeats 1600000 in
theorem split_walk1 {K : Type} (es : List (Str × K)) (bs : List Nat) (hbs : bs.length = es.length) (b blk gen g o c k c2 : Nat) (d : Bool) (A2 : Option Addr) (w : World) (hnode : NodeAt w b blk gen d (.slice A2 0 c2) (.slice (some ⟨g, o, none⟩) es.length c)) (hps : SlC w 139 (.slice (some ⟨g, o, none⟩) es.length c) es.length (kcells es bs))
    (hk : half (es.map ksz) = k) (h1 : 1 ≤ k) (h2 : k < es.length) (hnc : es.length ≤ c) (_hcm : c ≤ maxLen) (hn : es.length ≤ 1000) (hs : (es.map ksz).sum ≤ 100000) :
    Calls Tryz.prog 86 #[P b] w fun e w' => ∃ A1 d1 A2 d2, e = .returned (.tuple #[P (w.heap.size + 1), .agg #[.string (firstKey (es.drop k)), P (w.heap.size + 1 + 1)]]) ∧
      Blk w' (w.heap.size + 1) 137 #[.int .i64 0, .int .u32 0, .bool true, .slice none 0 0, .slice A1 k d1] ∧ Blk w' (w.heap.size + 1 + 1) 137 #[.int .i64 0, .int .u32 0, .bool true, .slice none 0 0, .slice A2 (es.length - k) d2] ∧
      w'.ownsRow w.heap.size 139 2 (.slice A1 k d1) k (kcells (es.take k) (bs.take k)) ∧ w'.ownsRow w.heap.size 139 2 (.slice A2 (es.length - k) d2) (es.length - k) (kcells (es.drop k) (bs.drop k)) ∧ Below w.heap.size w w' := by
  have c3 : w.cell? ⟨b, 4, none⟩ = some (.slice (some ⟨g, o, none⟩) es.length c) := by rw [Blk.cell hnode]; rfl
  have hblt := Blk.lt hnode
  have hcut := fun (W : World) (hW : SlC W 139 (.slice (some ⟨g, o, none⟩) es.length c) es.length (kcells es bs)) => reads_cut hW k (by omega)
  rw [kcells_take, kcells_drop] at hcut
  have hone1 := kcells_one (es.take k) (bs.take k)
  have hone2 := kcells_one (es.drop k) (bs.drop k)
  unfold maxLen at _hcm
  have q1 : k ≤ c := by omega
  have q2 : ¬ c = k := by omega
  have q3 : k ≤ es.length := by omega
  have hl1 : k ≤ 1000 := by omega
  have hl2 : es.length - k ≤ 1000 := by omega
  have c3' := fun o1 o2 o3 => cell_alloc o3 (cell_alloc o2 (cell_alloc o1 c3))
  have HCUT := hide hcut
  have H1 := hide hone1
  have H2 := hide hone2
  have HN := hide hnode
  have HP := hide hps
  have HK := hide hk
  have HS := hide hs
  clear hcut hone1 hone2 hnode hps hk hs
  unfold P
  go_enter Tryz.func86, Tryz.ntmps86
  go_wp2_with (first
    | (go_at_call 81; refine (leaf_no b blk gen es.length c d _ _ _ (((HN.out.alloc _).alloc _).alloc _) (by omega) hn).mono ?_; rintro e w' ⟨rfl, rfl⟩)
    | (go_at_call 129; refine (half_kid es bs _ c _ (HP.out.keep immK (Keep.of_below ((((Below.refl _ _).alloc (Nat.le_refl _) _).alloc (by simp) _).alloc (by simp; omega) _))) (by omega) hn HS.out hbs).mono ?_; rintro e w1 ⟨rfl, hb1⟩; rw [HK.out]))
  have hz1 : w.heap.size + 1 + 1 + 1 ≤ w1.heap.size := by have := hb1.size; simp at this; omega
  have hw1 : Below w.heap.size w w1 := ((((Below.refl _ _).alloc (Nat.le_refl _) _).alloc (by simp) _).alloc (by simp; omega) _).trans (hb1.mono (by simp; omega))
  have g1 : Blk w1 (w.heap.size + 1) 137 #[.int .i64 0, .int .u32 0, .bool true, .slice none 0 0, .slice none 0 0] := Blk.below ((by have := Blk.new (w.alloc (Obj.cells #[.string ⟨#[]⟩, .pointer none] 139)) 137 #[.int .i64 0, .int .u32 0, .bool true, .slice none 0 0, .slice none 0 0]; simp only [World.size_alloc] at this; exact this.alloc _)) hb1 (by simp)
  have g2 : Blk w1 (w.heap.size + 1 + 1) 137 #[.int .i64 0, .int .u32 0, .bool true, .slice none 0 0, .slice none 0 0] := Blk.below ((by have := Blk.new ((w.alloc (Obj.cells #[.string ⟨#[]⟩, .pointer none] 139)).alloc (Obj.cells #[.int .i64 0, .int .u32 0, .bool true, .slice none 0 0, .slice none 0 0] 137)) 137 #[.int .i64 0, .int .u32 0, .bool true, .slice none 0 0, .slice none 0 0]; simp only [World.size_alloc] at this; exact this)) hb1 (by simp)
  have c31 : w1.cell? ⟨b, 4, none⟩ = some (.slice (some ⟨g, o, none⟩) es.length c) := (hw1.cell hblt).trans c3
  have hsl1 : SlC w1 139 (.slice (some ⟨g, o, none⟩) es.length c) es.length (kcells es bs) := HP.out.keep immK (Keep.of_below hw1)
  have HSL := hide hsl1
  have G1 := hide g1
  have G2 := hide g2
  clear g1 g2 hsl1
  have hz2 : b < w1.heap.size := by omega
  have hne1 : (⟨w.heap.size + 1, 4, none⟩ : Addr) ≠ ⟨b, 4, none⟩ := fun e => by injection e with e; omega
  have hne2 : (⟨w.heap.size + 1 + 1, 4, none⟩ : Addr) ≠ ⟨b, 4, none⟩ := fun e => by injection e with e; omega
  go_region_held3 (fun w' => w'.cell? ⟨b, 4, none⟩ = some (.slice (some ⟨g, o, none⟩) es.length c)) (first | go_keep | (rw [hb2.cell hz2]; assumption) | (rw [hb3.cell (Nat.lt_of_lt_of_le hz2 hb2.size)]; rw [hb2.cell hz2]; assumption) | (rw [World.cell?_setCell_other _ _ _ _ hne1]; assumption) | (rw [World.cell?_setCell_other _ _ _ _ hne2]; assumption))
    (first
      | (go_at_call 131
         ((with_reducible refine (clone_kid' (some ⟨g, o, none⟩) k c (kcells (es.take k) (bs.take k)) _ (HCUT.out _ HSL.out).1.drew H1.out hl1 (by simp)).mono ?_)
          rintro e w2 ⟨A1', c1', rfl, hm1, ho1, hb2⟩
          have hb2' : Below w1.heap.size w1.drew w2 := hb2
          have hz3 : w1.heap.size ≤ w2.heap.size := hb2.size
          have hr2 := (((HCUT.out _ HSL.out).2.drew.below hb2').more hz3).drew))
      | (go_at_call 131
         ((with_reducible refine (clone_kid' (some ⟨g, o + k * 2, none⟩) (es.length - k) (c - k) (kcells (es.drop k) (bs.drop k)) _ hr2 H2.out hl2 (by simp)).mono ?_)
          rintro e w3 ⟨A2', c2', rfl, hm2, ho2, hb3⟩
          have s1 : Blk w3 (w.heap.size + 1) 137 #[.int .i64 0, .int .u32 0, .bool true, .slice none 0 0, .slice none 0 0] := (G1.out.drew.below hb2 (by show _ < w1.heap.size; omega)).below hb3 (by have := hb2.size; have : w1.heap.size ≤ w2.heap.size := this; omega)
          have s2 : Blk w3 (w.heap.size + 1 + 1) 137 #[.int .i64 0, .int .u32 0, .bool true, .slice none 0 0, .slice none 0 0] := (G2.out.drew.below hb2 (by show _ < w1.heap.size; omega)).below hb3 (by have := hb2.size; have : w1.heap.size ≤ w2.heap.size := this; omega)
          have x1 : w3.cell? ⟨w.heap.size + 1, 4, none⟩ = some (.slice none 0 0) := by rw [s1.cell]; rfl
          have x2 : w3.cell? ⟨w.heap.size + 1 + 1, 4, none⟩ = some (.slice none 0 0) := by rw [s2.cell]; rfl
          have y1 : w3.frozen? ⟨w.heap.size + 1, 4, none⟩ = false := s1.frozen 4
          have y2 : w3.frozen? ⟨w.heap.size + 1 + 1, 4, none⟩ = false := s2.frozen 4
          have S1 := hide s1
          have S2 := hide s2
          clear s1 s2)))
  go_wp2_with fail
  have hz5 : w2.heap.size ≤ w3.heap.size := hb3.size
  have g0 : Blk w3 w.heap.size 139 #[.string ⟨#[]⟩, .pointer none] := by
    have h0 : Blk w1 w.heap.size 139 #[.string ⟨#[]⟩, .pointer none] := Blk.below (((Blk.new w 139 #[.string ⟨#[]⟩, .pointer none]).alloc _).alloc _) hb1 (by simp; omega)
    exact (h0.drew.below hb2' (by omega)).below hb3 (by omega)
  obtain ⟨g2, o2, u, v, hA2, hu, hv, e1, e2, hg2⟩ := (SlC.of_own ho2).cells_at (Below.refl _ _) (k := 0) (by omega)
  subst hA2
  obtain ⟨G, cur, hGe, hGe0, hGb⟩ : ∃ G cur, (Value.slice (some ⟨g2, o2, none⟩) (es.length - k) c2' : Value) = .slice (some ⟨G, 0, none⟩) (es.length - k) c2' ∧ w2.heap.size ≤ G ∧ Blk w3 G 139 cur := by
    rcases ho2.2 with ⟨h, _⟩ | ⟨G, cap, cur, hv, hb, hg, _⟩
    · cases h
    · injection hv with h1 h2 h3
      exact ⟨G, cur, by rw [h1], hb, hg⟩
  injection hGe with hGe
  injection hGe with hGe
  injection hGe with hGe ho
  subst hGe
  subst ho
  have hge : w2.heap.size ≤ g2 := hGe0
  have n1 : g2 ≠ w.heap.size := by omega
  have n2 : g2 ≠ w.heap.size + 1 := by omega
  have n3 : g2 ≠ w.heap.size + 1 + 1 := by omega
  have hk0 := kcells_at (es.drop k) (bs.drop k) 0 (by rw [List.length_drop]; omega) (by rw [List.length_drop]; omega)
  rw [hk0.1] at hu
  injection hu with hu
  subst hu
  rw [← firstKey_at] at e1
  obtain ⟨w4, hw4⟩ : ∃ w4, w4 = ((w3.setCell ⟨w.heap.size + 1, 4, none⟩ (.slice A1' k c1')).setCell ⟨w.heap.size + 1 + 1, 4, none⟩ (.slice (some ⟨g2, 0, none⟩) (es.length - k) c2')) := ⟨_, rfl⟩
  rw [← hw4]
  have v1 : w4.cell? ⟨w.heap.size + 1 + 1, 4, none⟩ = some (.slice (some ⟨g2, 0, none⟩) (es.length - k) c2') := by
    rw [hw4]
    have := ((S2.out.far (p := ⟨w.heap.size + 1, 4, none⟩) (by simp) (.slice A1' k c1')).set_ 4 (.slice (some ⟨g2, 0, none⟩) (es.length - k) c2'))
    rw [this.cell]; rfl
  have v2 : w4.cell? ⟨g2, 0, none⟩ = some (.string (firstKey (es.drop k))) := by
    rw [hw4, World.cell?_setCell_other _ _ _ _ (fun e => by injection e with e; omega), World.cell?_setCell_other _ _ _ _ (fun e => by injection e with e; omega)]
    exact e1
  have v3 : Blk w4 w.heap.size 139 #[.string ⟨#[]⟩, .pointer none] := by
    rw [hw4]
    exact (g0.far (by simp) _).far (by simp; omega) _
  have v4 : w4.cell? ⟨w.heap.size, 0, none⟩ = some (.string ⟨#[]⟩) := by rw [v3.cell]; rfl
  have v5 : w4.cell? ⟨w.heap.size, 1, none⟩ = some (.pointer none) := by rw [v3.cell]; rfl
  have v6 : w4.frozen? ⟨w.heap.size, 0, none⟩ = false := v3.frozen 0
  have v7 : w4.frozen? ⟨w.heap.size, 1, none⟩ = false := v3.frozen 1
  have V3 := hide v3
  have W4 := hide hw4
  have G0 := hide g0
  have HG := hide hGb
  clear v3 hw4 g0 hGb x1 x2 y1 y2 e1 e2 hr2
  go_region
  obtain ⟨w5, hw5⟩ : ∃ w5, w5 = ((w4.setCell ⟨w.heap.size, 0, none⟩ (.string (firstKey (es.drop k)))).setCell ⟨w.heap.size, 1, none⟩ (P (w.heap.size + 1 + 1))) := ⟨_, rfl⟩
  unfold P at hw5
  rw [← hw5]
  have f0 : Blk w5 w.heap.size 139 #[.string (firstKey (es.drop k)), P (w.heap.size + 1 + 1)] := by
    rw [hw5]
    exact (V3.out.set_ 0 _).set_ 1 _
  have f1 : w5.cell? ⟨w.heap.size, 0, none⟩ = some (.string (firstKey (es.drop k))) := by rw [f0.cell]; rfl
  have f2 : w5.cell? ⟨w.heap.size, 1, none⟩ = some (P (w.heap.size + 1 + 1)) := by rw [f0.cell]; rfl
  have W5 := hide hw5
  clear hw5 f0
  unfold P at f2
  go_wp2_with fail
  refine bodyPost_ret (v := .tuple #[P (w.heap.size + 1), .agg #[.string (firstKey (es.drop k)), P (w.heap.size + 1 + 1)]]) (by simp [results, Tryz.results86, go_sem, f1, f2]) rfl ⟨rfl, A1', c1', ?_, some ⟨g2, 0, none⟩, c2', ?_, ?_, ?_, ?_⟩
  · rw [W5.out, W4.out]
    exact ((((S1.out.set_ 4 _).far (by simp) _).far (by simp) _).far (by simp) _)
  · rw [W5.out, W4.out]
    exact ((((S2.out.far (by simp) _).set_ 4 _).far (by simp; omega) _).far (by simp; omega) _)
  · rw [W5.out, W4.out]
    have h := own_below ho1 hb3
    have hzz : w1.heap.size ≤ w2.heap.size := hz3
    have m0 := own_far h (g := w.heap.size) (by first | (show _ < w1.heap.size; omega) | (show _ < w2.heap.size; omega))
    have m1 := own_far h (g := w.heap.size + 1) (by first | (show _ < w1.heap.size; omega) | (show _ < w2.heap.size; omega))
    have m2 := own_far h (g := w.heap.size + 1 + 1) (by first | (show _ < w1.heap.size; omega) | (show _ < w2.heap.size; omega))
    exact own_base (ownsRow_setCell_other (ownsRow_setCell_other (ownsRow_setCell_other (ownsRow_setCell_other h m1 _) m2 _) m0 _) m0 _) (by have := hw1.size; exact this)
  · rw [W5.out, W4.out]
    have h := ho2
    have hzz : w1.heap.size ≤ w2.heap.size := hz3
    have m0 := own_far h (g := w.heap.size) (by first | (show _ < w1.heap.size; omega) | (show _ < w2.heap.size; omega))
    have m1 := own_far h (g := w.heap.size + 1) (by first | (show _ < w1.heap.size; omega) | (show _ < w2.heap.size; omega))
    have m2 := own_far h (g := w.heap.size + 1 + 1) (by first | (show _ < w1.heap.size; omega) | (show _ < w2.heap.size; omega))
    exact own_base (ownsRow_setCell_other (ownsRow_setCell_other (ownsRow_setCell_other (ownsRow_setCell_other h m1 _) m2 _) m0 _) m0 _) (by have := hw1.size; have : w1.heap.size ≤ w2.heap.size := hz3; show w.heap.size ≤ w2.heap.size; omega)
  · rw [W5.out, W4.out]
    have h1 : Below w1.heap.size w1 w2 := (Below.refl _ w1).drew.trans hb2'
    have h2 : Below w.heap.size w w3 := (hw1.trans (h1.mono (by omega))).trans (hb3.mono (by omega))
    exact ((((h2.setCell (p := ⟨w.heap.size + 1, 4, none⟩) (Nat.le_add_right _ _) _).setCell (p := ⟨w.heap.size + 1 + 1, 4, none⟩) (Nat.le_add_right _ 2) _).setCell (p := ⟨w.heap.size, 0, none⟩) (Nat.le_refl _) _).setCell (p := ⟨w.heap.size, 1, none⟩) (Nat.le_refl _) _).drew

theorem half_bounds (l : List Nat) (h : 2 ≤ l.length) : 1 ≤ half l ∧ half l < l.length := by unfold half; omega

theorem RepL.take {K : Type} {R : K → Nat → List Nat → Prop} : ∀ {es : List (Str × K)} {bs : List Nat} {dss : List (List Nat)} (k : Nat), RepL R es bs dss → RepL R (es.take k) (bs.take k) (dss.take k)
  | [], [], [], k, _ => by simp [RepL]
  | _ :: _, _ :: _, _ :: _, 0, _ => by simp [RepL]
  | _ :: _, _ :: _, _ :: _, k + 1, h => ⟨h.1, RepL.take k h.2⟩
  | [], [], _ :: _, _, h => h.elim
  | [], _ :: _, _, _, h => h.elim
  | _ :: _, [], _, _, h => h.elim
  | _ :: _, _ :: _, [], _, h => h.elim
theorem RepL.drop {K : Type} {R : K → Nat → List Nat → Prop} : ∀ {es : List (Str × K)} {bs : List Nat} {dss : List (List Nat)} (k : Nat), RepL R es bs dss → RepL R (es.drop k) (bs.drop k) (dss.drop k)
  | [], [], [], k, _ => by simp [RepL]
  | _ :: _, _ :: _, _ :: _, 0, h => h
  | _ :: _, _ :: _, _ :: _, k + 1, h => RepL.drop (es := _) k h.2
  | [], [], _ :: _, _, h => h.elim
  | [], _ :: _, _, _, h => h.elim
  | _ :: _, [], _, _, h => h.elim
  | _ :: _, _ :: _, [], _, h => h.elim
theorem RepL.append {K : Type} {R : K → Nat → List Nat → Prop} : ∀ {es es' : List (Str × K)} {bs bs' : List Nat} {dss dss' : List (List Nat)}, RepL R es bs dss → RepL R es' bs' dss' → RepL R (es ++ es') (bs ++ bs') (dss ++ dss')
  | [], _, [], _, [], _, _, h => h
  | _ :: _, _, _ :: _, _, _ :: _, _, h, h' => ⟨h.1, RepL.append h.2 h'⟩
  | [], _, [], _, _ :: _, _, h, _ => h.elim
  | [], _, _ :: _, _, _, _, h, _ => h.elim
  | _ :: _, _, [], _, _, _, h, _ => h.elim
  | _ :: _, _, _ :: _, _, [], _, h, _ => h.elim

theorem SlC.zero (w : World) (T : TypeId) : SlC w T (.slice none 0 0) 0 [] := ⟨rfl, none, 0, rfl, Nat.le_refl _, Nat.zero_le _, fun _ => rfl, fun h => absurd h (by omega)⟩

set_option maxRecDepth 100000 in
theorem split_any : ∀ (h : Nat) (t : Tr h) (b : Nat) (ds : List Nat) (w : World), Rep w h t b ds → 2 ≤ Tr.len h t → Tr.len h t ≤ 1000 → Tr.size h t ≤ 100000 →
    Calls Tryz.prog 86 #[P b] w fun e w' => ∃ b1 b2 d1 d2, e = .returned (.tuple #[P b1, .agg #[.string (Tr.split h t).2.1, P b2]]) ∧ Rep w' h (Tr.split h t).1 b1 (d1 ++ [b1]) ∧ Rep w' h (Tr.split h t).2.2 b2 (d2 ++ [b2]) ∧ d1 ++ d2 ++ dirtyAt (Tr.dirty h t) b = ds ∧
      w.heap.size ≤ b1 ∧ w.heap.size ≤ b2 ∧ b1 ≠ b2 ∧ Below w.heap.size w w'
  | 0, t, b, ds, w, hr, h1, hn, hs => by
    obtain ⟨A1, c1, A2, c2, hn', hds⟩ := rep_leaf hr
    change 2 ≤ (Nd.es t).length at h1
    change (Nd.es t).length ≤ 1000 at hn
    change ((Nd.es t).map lsz).sum ≤ 100000 at hs
    obtain ⟨g, o, u, v, hA, _, _, _, _, hg⟩ := hn'.ps.cells_at (Below.refl _ _) (k := 0) (by omega)
    subst hA
    obtain ⟨_, _, _, hve, hnc, hcm, _, _⟩ := hn'.ps
    injection hve with _ _ hce
    subst hce
    obtain ⟨k1, k2⟩ := half_bounds ((Nd.es t).map lsz) (by simpa using h1)
    rw [List.length_map] at k2
    refine (split_walk0 (Nd.es t) b (Nd.blk t) (Nd.gen t) g o c1 _ c2 (Nd.dirty t) A2 w hn'.node hn'.ps rfl k1 k2 hnc hcm hn hs).mono ?_
    rintro e w' ⟨A1', d1, A2', d2, rfl, x1, x2, x3, x4, x5⟩
    have y1 := (SlC.of_own x3)
    have y2 := (SlC.of_own x4)
    refine ⟨_, _, [], [], rfl, ⟨_, _, x1, ?_, SlC.zero _ _, rfl⟩, ⟨_, _, x2, ?_, SlC.zero _ _, rfl⟩, hds.symm, by omega, by omega, by omega, x5⟩
    · show SlC _ _ _ ((Nd.es t).take _).length _
      rw [List.length_take, Nat.min_eq_left (by omega)]; exact y1
    · show SlC _ _ _ ((Nd.es t).drop _).length _
      rw [List.length_drop]; exact y2
  | h + 1, t, b, ds, w, hr, h1, hn, hs => by
    obtain ⟨A1, c1, A2, c2, bs, dss, hn', hrl, hds⟩ := rep_branch hr
    change 2 ≤ (Nd.es t).length at h1
    change (Nd.es t).length ≤ 1000 at hn
    change ((Nd.es t).map ksz).sum ≤ 100000 at hs
    obtain ⟨g, o, u, v, hA, _, _, _, _, hg⟩ := hn'.ks.cells_at (Below.refl _ _) (k := 0) (by omega)
    subst hA
    obtain ⟨_, _, _, hve, hnc, hcm, _, _⟩ := hn'.ks
    injection hve with _ _ hce
    subst hce
    obtain ⟨k1, k2⟩ := half_bounds ((Nd.es t).map ksz) (by simpa using h1)
    rw [List.length_map] at k2
    refine (split_walk1 (Nd.es t) bs hrl.len.1 b (Nd.blk t) (Nd.gen t) g o c2 _ c1 (Nd.dirty t) A1 w hn'.node hn'.ks rfl k1 k2 hnc hcm hn hs).mono ?_
    rintro e w' ⟨A1', d1, A2', d2, rfl, x1, x2, x3, x4, x5⟩
    have y1 := (SlC.of_own x3)
    have y2 := (SlC.of_own x4)
    have hrl' := hrl.mono (R' := Rep w' h) fun _ _ _ hr => Rep.keep (Keep.of_below x5) hr
    refine ⟨_, _, (dss.take (half ((Nd.es t).map ksz))).flatten, (dss.drop (half ((Nd.es t).map ksz))).flatten, rfl, ⟨_, _, bs.take (half ((Nd.es t).map ksz)), dss.take (half ((Nd.es t).map ksz)), x1, SlC.zero _ _, ?_, hrl'.take _, rfl⟩, ⟨_, _, bs.drop (half ((Nd.es t).map ksz)), dss.drop (half ((Nd.es t).map ksz)), x2, SlC.zero _ _, ?_, hrl'.drop _, rfl⟩, ?_, by omega, by omega, by omega, x5⟩
    · show SlC _ _ _ ((Nd.es t).take _).length _
      rw [List.length_take, Nat.min_eq_left (by omega)]; exact y1
    · show SlC _ _ _ ((Nd.es t).drop _).length _
      rw [List.length_drop]; exact y2
    · rw [← List.flatten_append, List.take_append_drop]; exact hds.symm

end Go.Proofs.YtemondlgcmpbbaaGreatDoor
