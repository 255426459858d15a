/- De Tg: merged. -/
import Derived.Test.YtemondlgcmpbbaaGreatDoorMC30
import Derived.Test.YtemondlgcmpbbaaGreatDoorMC29
/- Tree.Delete. -/
namespace Go.Proofs.YtemondlgcmpbbaaGreatDoor
open Go.RowKit

/-- On the way down to a root that has not one child alone. -/
structure DelRel (ok : Nat → Prop) (w : World) (x : (h : Nat) × Tr h) (keys : Nat) (ds : List Nat) (k : Nat) (n : Tr k) (b : Nat) (dk : List Nat) (wr : World) : Prop where
  rep : FRep (fun z => up ok w.heap.size z ∧ z ≠ w.heap.size ∧ z ≠ w.heap.size + 1) wr k n b dk
  same : shrink k n = x
  nd : dk.Nodup
  sub : ∀ x ∈ dk, x ∈ ds ∨ w.heap.size ≤ x
  box : Blk wr w.heap.size 88 #[P b, .int .i64 keys]
  res : Blk wr (w.heap.size + 1) 88 #[.pointer none, .int .i64 0]
  below : Below w.heap.size w wr

theorem shrink_zero (n : Tr 0) : shrink 0 n = ⟨0, n⟩ := rfl
theorem shrink_not {h : Nat} {n : Tr (h + 1)} (hl : (Nd.es n).length ≠ 1) : shrink (h + 1) n = ⟨h + 1, n⟩ := by
  show (match Nd.es n with | [e] => shrink h e.2 | _ => ⟨h + 1, n⟩) = _
  split
  · rename_i e he
    rw [he] at hl
    simp at hl
  · rfl

set_option maxRecDepth 100000 in
set_option maxHeartbeats 1600000 in
theorem tdelete_none {ok : Nat → Prop} (t : Tree) (rp : Value) (ds : List Nat) (key : Str) (w : World) (hv : TreeV ok w t rp ds) (hnd : ds.Nodup) (ht : TR t) (hp : t.pairs.length ≤ 150) (hg : t.get key = none) :
    Calls Tryz.prog 55 #[treeV rp t.keys, .string key] w (TrPost ok w t ds) := by
  obtain ⟨q, rfl⟩ : ∃ q, rp = .pointer q := by
    rcases hv with ⟨_, e, _⟩ | ⟨_, _, b, _, e, _⟩
    · exact ⟨_, e⟩
    · exact ⟨_, e⟩
  have hb0 : Below w.heap.size w ((w.alloc (.cells #[(.pointer q), .int .i64 t.keys] 88)).alloc (.cells #[.pointer none, .int .i64 0] 88)) := ((Below.refl _ _).alloc (Nat.le_refl _) _).alloc (by simp) _
  obtain ⟨W0, hW0⟩ : ∃ W0, W0 = (w.alloc (.cells #[(.pointer q), .int .i64 t.keys] 88)).alloc (.cells #[.pointer none, .int .i64 0] 88) := ⟨_, rfl⟩
  have hx : Blk W0 w.heap.size 88 #[(.pointer q), .int .i64 t.keys] := by rw [hW0]; exact (Blk.new _ _ _).alloc _
  have hr : Blk W0 (w.heap.size + 1) 88 #[.pointer none, .int .i64 0] := by rw [hW0]; exact Blk.new2 _ _ _ _
  rw [← hW0] at hb0
  have hv0 := hv.below hb0 (ok' := ok) (fun _ h => h)
  have hsz : W0.heap.size = w.heap.size + 1 + 1 := by rw [hW0]; simp
  have GET := hide (get_any t (.pointer q) ds key W0 hv0 ht hp)
  rw [hg] at GET
  have hds := hv.ds
  have HV := hide (hv.below hb0 (ok' := fun x => ok x) (fun _ h => h))
  have HVW := hide hv
  have HX := hide hx
  have HR := hide hr
  have HB := hide hb0
  have HW0 := hide hW0
  clear hv hx hr hb0 hv0 hW0 hds
  unfold treeV getV at GET
  unfold treeV
  go_enter Tryz.func55, Tryz.ntmps55
  go_wp2_with (first
    | (go_at_call 56; go_loud (
       rw [← HW0.out]
       refine GET.out.mono ?_; rintro e w1 ⟨rfl, hb1⟩
       have hx1 := HX.out.below hb1 HX.out.lt
       have hr1 := HR.out.below hb1 HR.out.lt
       have y0 : w1.cell? ⟨w.heap.size, 0, none⟩ = some (.pointer q) := by rw [hx1.cell]; rfl
       have y1 : w1.cell? ⟨w.heap.size, 1, none⟩ = some (.int .i64 t.keys) := by rw [hx1.cell]; rfl
       have v3 : w1.frozen? ⟨w.heap.size + 1, 0, none⟩ = false := hr1.frozen 0
       have v4 : w1.frozen? ⟨w.heap.size + 1, 1, none⟩ = false := hr1.frozen 1
       have v5 : w1.cell? ⟨w.heap.size + 1, 0, none⟩ = some (.pointer none) := by rw [hr1.cell]; rfl
       have v6 : w1.cell? ⟨w.heap.size + 1, 1, none⟩ = some (.int .i64 0) := by rw [hr1.cell]; rfl
       have HR1 := hide hr1
       have HB1 := hide (HB.out.trans (hb1.mono HB.out.size))
       clear hx1 hr1 hb1)))
  have hb1s := HB1.out.size
  obtain ⟨WE, hWE⟩ : ∃ WE, WE = (w1.setCell ⟨w.heap.size + 1, 0, none⟩ (.pointer q)).setCell ⟨w.heap.size + 1, 1, none⟩ (.int .i64 t.keys) := ⟨_, rfl⟩
  rw [← hWE]
  have hrw : Blk WE (w.heap.size + 1) 88 #[(.pointer q), .int .i64 t.keys] := by
    rw [hWE]
    exact (HR1.out.set_ 0 _).set_ 1 _
  have r0 : WE.cell? ⟨w.heap.size + 1, 0, none⟩ = some (.pointer q) := by rw [hrw.cell]; rfl
  have r1 : WE.cell? ⟨w.heap.size + 1, 1, none⟩ = some (.int .i64 t.keys) := by rw [hrw.cell]; rfl
  have hbwE : Below w.heap.size w WE := by
    rw [hWE]
    exact (HB1.out.setCell (p := ⟨w.heap.size + 1, 0, none⟩) (by show w.heap.size ≤ w.heap.size + 1; omega) _).setCell (p := ⟨w.heap.size + 1, 1, none⟩) (by show w.heap.size ≤ w.heap.size + 1; omega) _
  exact bodyPost_ret (v := treeV (.pointer q) t.keys) (by unfold treeV; simp [results, Tryz.results55, go_sem, r0, r1]) rfl ⟨(.pointer q), ds, rfl, HVW.out.below hbwE up_l, hnd, (fun x hx => .inl hx), hbwE⟩

set_option maxRecDepth 100000 in
set_option maxHeartbeats 3200000 in
theorem tdelete_some {ok : Nat → Prop} (t : Tree) (h b : Nat) (n : Tr h) (ds : List Nat) (key : Str) (w : World) (hroot : t.root = some ⟨h, n⟩) (hf : FRep ok w h n b ds) (hnd : ds.Nodup) (ht : TR t) (hp : t.pairs.length ≤ 150) (hg : (t.get key).isSome = true) :
    Calls Tryz.prog 55 #[treeV (P b) t.keys, .string key] w (TrPost ok w (t.delete key) ds) := by
  have hkeys := ht.tw.keys_
  have hb0 : Below w.heap.size w ((w.alloc (.cells #[P b, .int .i64 t.keys] 88)).alloc (.cells #[.pointer none, .int .i64 0] 88)) := ((Below.refl _ _).alloc (Nat.le_refl _) _).alloc (by simp) _
  obtain ⟨W0, hW0⟩ : ∃ W0, W0 = (w.alloc (.cells #[P b, .int .i64 t.keys] 88)).alloc (.cells #[.pointer none, .int .i64 0] 88) := ⟨_, rfl⟩
  have hx : Blk W0 w.heap.size 88 #[P b, .int .i64 t.keys] := by rw [hW0]; exact (Blk.new _ _ _).alloc _
  have hr : Blk W0 (w.heap.size + 1) 88 #[.pointer none, .int .i64 0] := by rw [hW0]; exact Blk.new2 _ _ _ _
  rw [← hW0] at hb0
  have hsz : W0.heap.size = w.heap.size + 1 + 1 := by rw [hW0]; simp
  have hf0 := hf.below hb0 (ok' := ok) (fun _ h => h)
  have GET := hide (get_any t (P b) ds key W0 (.inr ⟨h, n, b, hroot, rfl, hf0⟩) ht hp)
  have hgt : t.get key = Tr.get h n key := by unfold Tree.get; rw [hroot]
  have hpp : t.pairs = Tr.pairs h n := by unfold Tree.pairs; rw [hroot]
  have hwf := ht.tw.some_ h n hroot
  have htop := ht.top h n hroot
  have hgp : Tr.get h n key = lookup key (Tr.pairs h n) := get_pairs h _ _ n key hwf (slt_empty key)
  have hth : there key (Tr.pairs h n) = true := by rw [there_lookup, ← hgp, ← hgt]; exact hg
  have hpl : (Tr.pairs h n).length ≤ 150 := by rw [← hpp]; exact hp
  have hdel : t.delete key = { keys := t.keys - 1, root := if t.keys - 1 = 0 then none else some (shrink h (Tr.drop h n key)) } := by
    unfold Tree.delete
    rw [hroot]
    simp only
    rw [← hgt, hg]
    rfl
  have hlt : ∀ x ∈ ds, x < w.heap.size := fun x hx => (FRep.ds hf x hx).2
  have HDROP := hide (fun (w1 : World) (hb1 : Below w.heap.size w w1) => drop_any h (fun z => ok z ∧ z < w.heap.size) noKey none n key b ds w1 hwf htop (slt_empty key) (inHi_all key) hth hpl (hf.lt.move (Agree.of_below hb1 (fun _ hx => hx.2)) (fun _ h => h)) hnd)
  have hdk : KidOk h (Tr.drop h n key) := kidok_drop hwf (slt_empty key) (inHi_all key) hth htop hpl
  obtain ⟨t', ht'⟩ : ∃ t', t' = t.delete key := ⟨_, rfl⟩
  rw [← ht'] at hdel ⊢
  obtain ⟨K, hK⟩ : ∃ K, K = t.keys := ⟨_, rfl⟩
  have hK1 : 1 ≤ K := by
    have hl := (ldrop_len key (Tr.pairs h n) (WF_pairs h _ _ n hwf).1 hth).1
    rw [hK, hkeys, hpp]; omega
  have hK2 : K ≤ 150 := by rw [hK, hkeys]; exact hp
  rw [← hK] at hdel hx GET ⊢ 
  rw [← hK] at hW0
  obtain ⟨sv, hsv⟩ : ∃ sv, sv = (t.get key).getD ByteArray.empty := ⟨_, rfl⟩
  unfold treeV getV at GET
  rw [hg, ← hsv] at GET
  have HDEL := hide hdel
  have HX := hide hx
  have HR := hide hr
  have HB := hide hb0
  have HW0 := hide hW0
  have HDK := hide hdk
  have HSZ := hide hsz
  clear hf hf0 ht hp hg hx hr hb0 hW0 hgt hpp hwf htop hgp hth hpl hdel hdk ht' hroot hkeys hK hsv hsz
  have k0 : IntKind.i64.wrap ((K : Int) - 1) = ((K - 1 : Nat) : Int) := by rw [IntKind.wrap_i64]; omega
  unfold treeV
  go_enter Tryz.func55, Tryz.ntmps55
  go_upto_region 6 with (first
    | (go_at_call 56; go_loud (
       rw [← HW0.out]
       refine GET.out.mono ?_; rintro e w1 ⟨rfl, hb1⟩
       have hx1 := HX.out.below hb1 HX.out.lt
       have hr1 := HR.out.below hb1 HR.out.lt
       have y0 : w1.cell? ⟨w.heap.size, 0, none⟩ = some (P b) := by rw [hx1.cell]; rfl
       have y1 : w1.cell? ⟨w.heap.size, 1, none⟩ = some (.int .i64 K) := by rw [hx1.cell]; rfl
       have y2 : w1.frozen? ⟨w.heap.size, 1, none⟩ = false := hx1.frozen 1
       have HX1 := hide hx1
       have HR1 := hide hr1
       have HB1 := hide hb1
       clear hx1 hr1 hb1))
    | (go_at_call 80; go_loud (
       refine (HDROP.out _ (((HB.out.trans (HB1.out.mono HB.out.size)).setCell (p := ⟨w.heap.size, 1, none⟩) (Nat.le_refl _) _))).mono ?_
       rintro e w2 ⟨b2, d2, rfl, hf2, hn2, hs2, hbb2, hbl2⟩
       have hx2 := (Blk.set_ HX1.out 1 (.int .i64 ((K - 1 : Nat) : Int))).below hbl2 (by have := HX1.out.lt; simp only [World.setCell]; simpa [World.setCell] using this)
       have hr2 := (HR1.out.far (p := ⟨w.heap.size, 1, none⟩) (by show w.heap.size + 1 ≠ w.heap.size; omega) (.int .i64 ((K - 1 : Nat) : Int))).below hbl2 (by have := HR1.out.lt; simpa [World.setCell] using this)
       have a0 : w2.cell? ⟨w.heap.size, 0, none⟩ = some (P b) := by rw [hx2.cell]; rfl
       have a1 : w2.frozen? ⟨w.heap.size, 0, none⟩ = false := hx2.frozen 0
       have a2 : w2.cell? ⟨w.heap.size, 1, none⟩ = some (.int .i64 ((K - 1 : Nat) : Int)) := by rw [hx2.cell]; rfl
       have HX2 := hide hx2
       have HR2 := hide hr2
       have HF2 := hide hf2
       have HBL2 := hide hbl2
       clear hx2 hr2 hf2 hbl2)))
  have hb2s := HBL2.out.size
  have hs0 := HB.out.size
  have hs1 := HB1.out.size
  have hsz := HSZ.out
  have hsw : (w1.setCell ⟨w.heap.size, 1, none⟩ (.int .i64 ((K - 1 : Nat) : Int))).heap.size = w1.heap.size := by simp [World.setCell]
  rw [hsw] at hb2s
  have hbw2 : Below w.heap.size w w2 := ((HB.out.trans (HB1.out.mono hs0)).setCell (p := ⟨w.heap.size, 1, none⟩) (Nat.le_refl _) _).trans (HBL2.out.mono (by rw [hsw]; omega))
  obtain ⟨W3, hW3⟩ : ∃ W3, W3 = w2.setCell ⟨w.heap.size, 0, none⟩ (P b2) := ⟨_, rfl⟩
  have hx3 : Blk W3 w.heap.size 88 #[P b2, .int .i64 ((K - 1 : Nat) : Int)] := by rw [hW3]; exact HX2.out.set_ 0 _
  have hr3 : Blk W3 (w.heap.size + 1) 88 #[.pointer none, .int .i64 0] := by rw [hW3]; exact HR2.out.far (by show w.heap.size + 1 ≠ w.heap.size; omega) _
  have hbw3 : Below w.heap.size w W3 := by rw [hW3]; exact hbw2.setCell (Nat.le_refl _) _
  have hf3 : FRep (fun z => up ok w.heap.size z ∧ z ≠ w.heap.size ∧ z ≠ w.heap.size + 1) W3 h (Tr.drop h n key) b2 (d2 ++ [b2]) := by
    have h1 : ∀ z, up (fun z => ok z ∧ z < w.heap.size) (w1.setCell ⟨w.heap.size, 1, none⟩ (.int .i64 ((K - 1 : Nat) : Int))).heap.size z → up ok w.heap.size z ∧ z ≠ w.heap.size ∧ z ≠ w.heap.size + 1 := by
      rintro z (⟨h1, h2⟩ | hz)
      · exact ⟨.inl h1, by omega, by omega⟩
      · rw [hsw] at hz
        exact ⟨.inr (by omega), by omega, by omega⟩
    rw [hW3]
    exact (HF2.out.more h1).move (Agree.setCell _ _ _ (fun hz => hz.2.1 rfl)) (fun _ hz => hz)
  have hsub3 : ∀ x ∈ d2 ++ [b2], x ∈ ds ∨ w.heap.size ≤ x := by
    intro x hx
    rcases List.mem_append.1 hx with hx | hx
    · rcases hs2 x hx with k | k
      · exact .inl k
      · right; rw [hsw] at k; omega
    · rw [List.mem_singleton.1 hx]; right; rw [hsw] at hbb2; omega
  unfold P at hW3
  rw [← hW3]
  have v0 : W3.cell? ⟨w.heap.size, 0, none⟩ = some (.pointer (some ⟨b2, 0, none⟩)) := by rw [hx3.cell]; rfl
  have v1 : W3.cell? ⟨w.heap.size, 1, none⟩ = some (.int .i64 ((K - 1 : Nat) : Int)) := by rw [hx3.cell]; rfl
  have v2 : W3.frozen? ⟨w.heap.size, 0, none⟩ = false := hx3.frozen 0
  have HX3 := hide hx3
  have HR3 := hide hr3
  have HF3 := hide hf3
  have HB3 := hide hbw3
  clear hx3 hr3 hf3 hbw3 hbw2 hW3 a0 a1 a2 y0 y1 y2 hsw hb2s hs0 hs1 hsz HDROP GET hs2 hbb2
  by_cases hk0 : K - 1 = 0
  · have e0 : ((K - 1 : Nat) : Int) = 0 := by omega
    rw [e0] at v1
    have v3 : W3.cell? ⟨w.heap.size + 1, 0, none⟩ = some (.pointer none) := by rw [HR3.out.cell]; rfl
    have v4 : W3.cell? ⟨w.heap.size + 1, 1, none⟩ = some (.int .i64 0) := by rw [HR3.out.cell]; rfl
    have v5 : W3.frozen? ⟨w.heap.size + 1, 0, none⟩ = false := HR3.out.frozen 0
    have v6 : W3.frozen? ⟨w.heap.size + 1, 1, none⟩ = false := HR3.out.frozen 1
    go_wp2
    refine wp_loop_rounds 1 ?_
    rw [rounds_succ]
    go_wp2
    obtain ⟨WE, hWE⟩ : ∃ WE, WE = ((W3.setCell ⟨w.heap.size, 0, none⟩ (.pointer none)).setCell ⟨w.heap.size + 1, 0, none⟩ (.pointer none)).setCell ⟨w.heap.size + 1, 1, none⟩ (.int .i64 0) := ⟨_, rfl⟩
    rw [← hWE]
    have hrw : Blk WE (w.heap.size + 1) 88 #[.pointer none, .int .i64 0] := by
      rw [hWE]
      exact ((HR3.out.far (p := ⟨w.heap.size, 0, none⟩) (by show w.heap.size + 1 ≠ w.heap.size; omega) _).set_ 0 _).set_ 1 _
    have r0 : WE.cell? ⟨w.heap.size + 1, 0, none⟩ = some (.pointer none) := by rw [hrw.cell]; rfl
    have r1 : WE.cell? ⟨w.heap.size + 1, 1, none⟩ = some (.int .i64 0) := by rw [hrw.cell]; rfl
    have hbwE : Below w.heap.size w WE := by
      rw [hWE]
      exact ((HB3.out.setCell (p := ⟨w.heap.size, 0, none⟩) (Nat.le_refl _) _).setCell (p := ⟨w.heap.size + 1, 0, none⟩) (by show w.heap.size ≤ w.heap.size + 1; omega) _).setCell (p := ⟨w.heap.size + 1, 1, none⟩) (by show w.heap.size ≤ w.heap.size + 1; omega) _
    have hds' : t' = ⟨none, 0⟩ := by rw [HDEL.out, if_pos hk0, hk0]
    rw [hds']
    exact bodyPost_ret (v := treeV (.pointer none) 0) (by unfold treeV; simp [results, Tryz.results55, go_sem, r0, r1]) rfl ⟨.pointer none, [], rfl, .inl ⟨rfl, rfl, rfl⟩, List.nodup_nil, (fun x hx => by cases hx), hbwE⟩
  · have e0 : ¬ ((K - 1 : Nat) : Int) = 0 := by omega
    have hds' : t' = ⟨some (shrink h (Tr.drop h n key)), K - 1⟩ := by rw [HDEL.out, if_neg hk0]
    have HDS' := hide hds'
    clear hds'
    go_wp2
    go_loopg [29] h (fun k s29 wr => ∃ (n' : Tr k) (b' : Nat) (dk : List Nat), DelRel ok w (shrink h (Tr.drop h n key)) (K - 1) ds k n' b' dk wr)
    case atStart =>
      exact ⟨_, b2, d2 ++ [b2], HF3.out, rfl, hn2, hsub3, HX3.out, HR3.out, HB3.out⟩
    case round =>
      obtain ⟨n', b', dk, hrep, hsame, hnd', hsub', hxr, hrr, hbr⟩ := hrel
      have c0 : wr.cell? ⟨w.heap.size, 0, none⟩ = some (.pointer (some ⟨b', 0, none⟩)) := by rw [hxr.cell]; rfl
      have c1 : wr.cell? ⟨w.heap.size, 1, none⟩ = some (.int .i64 ((K - 1 : Nat) : Int)) := by rw [hxr.cell]; rfl
      have z0 : wr.frozen? ⟨w.heap.size, 0, none⟩ = false := hxr.frozen 0
      have v3 : wr.cell? ⟨w.heap.size + 1, 0, none⟩ = some (.pointer none) := by rw [hrr.cell]; rfl
      have v4 : wr.cell? ⟨w.heap.size + 1, 1, none⟩ = some (.int .i64 0) := by rw [hrr.cell]; rfl
      have v5 : wr.frozen? ⟨w.heap.size + 1, 0, none⟩ = false := hrr.frozen 0
      have v6 : wr.frozen? ⟨w.heap.size + 1, 1, none⟩ = false := hrr.frozen 1
      have HREP := hide hrep
      have HXR := hide hxr
      have HRR := hide hrr
      have HBR := hide hbr
      clear hxr hrr hbr v0 v1 v2
      cases gk with
      | zero =>
        obtain ⟨A1, cc1, A2, cc2, hnd2, _, _, _⟩ := hrep
        have c4 : wr.cell? ⟨b', 4, none⟩ = some (.slice A2 0 cc2) := by rw [Blk.cell hnd2.node]; rfl
        clear hnd2
        rw [shrink_zero] at hsame
        go_wp2
        obtain ⟨WE, hWE⟩ : ∃ WE, WE = (wr.setCell ⟨w.heap.size + 1, 0, none⟩ (.pointer (some ⟨b', 0, none⟩))).setCell ⟨w.heap.size + 1, 1, none⟩ (.int .i64 ((K - 1 : Nat) : Int)) := ⟨_, rfl⟩
        rw [← hWE]
        have hrw : Blk WE (w.heap.size + 1) 88 #[P b', .int .i64 ((K - 1 : Nat) : Int)] := by
          rw [hWE]
          exact (HRR.out.set_ 0 _).set_ 1 _
        have r0 : WE.cell? ⟨w.heap.size + 1, 0, none⟩ = some (P b') := by rw [hrw.cell]; rfl
        have r1 : WE.cell? ⟨w.heap.size + 1, 1, none⟩ = some (.int .i64 ((K - 1 : Nat) : Int)) := by rw [hrw.cell]; rfl
        have hbwE : Below w.heap.size w WE := by
          rw [hWE]
          exact (HBR.out.setCell (p := ⟨w.heap.size + 1, 0, none⟩) (by show w.heap.size ≤ w.heap.size + 1; omega) _).setCell (p := ⟨w.heap.size + 1, 1, none⟩) (by show w.heap.size ≤ w.heap.size + 1; omega) _
        have hrepE : FRep (up ok w.heap.size) WE _ n' b' dk := by
          rw [hWE]
          exact (HREP.out.move (Agree.setCell _ _ _ (fun hz => hz.2.2 rfl)) (fun _ hz => hz)).move (Agree.setCell _ _ _ (fun hz => hz.2.2 rfl)) (fun _ hz => hz.1)
        rw [HDS'.out, ← hsame]
        exact bodyPost_ret (v := treeV (P b') (K - 1)) (by unfold treeV; simp [results, Tryz.results55, go_sem, r0, r1]) rfl ⟨P b', dk, rfl, .inr ⟨_, n', b', rfl, rfl, hrepE⟩, hnd', hsub', hbwE⟩
      | succ k =>
        obtain ⟨A1, cc1, A2, cc2, bs, dss, hnd2, _, _, hkk, hdd⟩ := hrep
        have c4 : wr.cell? ⟨b', 4, none⟩ = some (.slice A2 (Nd.es n').length cc2) := by rw [Blk.cell hnd2.node]; rfl
        by_cases h1 : (Nd.es n').length = 1
        · obtain ⟨e, he⟩ := List.length_eq_one_iff.1 h1
          rw [he] at hkk
          obtain ⟨bc, bq, dc, dq, rfl, rfl, r4, r5⟩ := RepL.head (k := e.1) (c := e.2) hkk
          have hnd3 := hnd2
          obtain ⟨g, o, u1, u2, rfl, hu1, hu2, hc1, hc2, hgl⟩ := hnd2.ks.cells_at (Below.refl wr.heap.size wr) (k := 0) (by omega)
          rw [he] at hu2
          obtain rfl : P bc = u2 := by simpa [kcells] using hu2
          have hc3 : wr.cell? ⟨g, o + 1, none⟩ = some (P bc) := by simpa using hc2
          rw [h1] at c4
          rw [shrink_one he] at hsame
          have hdn : dc.Nodup := by
            rw [hdd, List.flatten_cons] at hnd'
            exact (List.nodup_append.1 (List.nodup_append.1 hnd').1).1
          have hdm : ∀ x ∈ dc, x ∈ dk := fun x hx => by rw [hdd, List.flatten_cons]; exact List.mem_append_left _ (List.mem_append_left _ hx)
          clear hnd2 hnd3 hkk r5 hc1 hc2
          unfold P at hc3
          go_wp2
          go_roundg k
          case measure => omega
          case rel =>
            exact ⟨e.2, bc, dc, r4.move (Agree.setCell _ _ _ (fun hz => hz.2.1 rfl)) (fun _ hz => hz), hsame, hdn, (fun x hx => hsub' x (hdm x hx)), HXR.out.set_ 0 _, HRR.out.far (by show w.heap.size + 1 ≠ w.heap.size; omega) _, HBR.out.setCell (Nat.le_refl _) _⟩
        · have e1 : ((((Nd.es n').length : Int)) == 1) = false := by rw [beq_eq_false_iff_ne]; omega
          have e2 : ¬ (((Nd.es n').length : Int)) = 1 := by omega
          clear hnd2 hkk
          rw [shrink_not h1] at hsame
          go_wp2
          obtain ⟨WE, hWE⟩ : ∃ WE, WE = (wr.setCell ⟨w.heap.size + 1, 0, none⟩ (.pointer (some ⟨b', 0, none⟩))).setCell ⟨w.heap.size + 1, 1, none⟩ (.int .i64 ((K - 1 : Nat) : Int)) := ⟨_, rfl⟩
          rw [← hWE]
          have hrw : Blk WE (w.heap.size + 1) 88 #[P b', .int .i64 ((K - 1 : Nat) : Int)] := by
            rw [hWE]
            exact (HRR.out.set_ 0 _).set_ 1 _
          have r0 : WE.cell? ⟨w.heap.size + 1, 0, none⟩ = some (P b') := by rw [hrw.cell]; rfl
          have r1 : WE.cell? ⟨w.heap.size + 1, 1, none⟩ = some (.int .i64 ((K - 1 : Nat) : Int)) := by rw [hrw.cell]; rfl
          have hbwE : Below w.heap.size w WE := by
            rw [hWE]
            exact (HBR.out.setCell (p := ⟨w.heap.size + 1, 0, none⟩) (by show w.heap.size ≤ w.heap.size + 1; omega) _).setCell (p := ⟨w.heap.size + 1, 1, none⟩) (by show w.heap.size ≤ w.heap.size + 1; omega) _
          have hrepE : FRep (up ok w.heap.size) WE _ n' b' dk := by
            rw [hWE]
            exact (HREP.out.move (Agree.setCell _ _ _ (fun hz => hz.2.2 rfl)) (fun _ hz => hz)).move (Agree.setCell _ _ _ (fun hz => hz.2.2 rfl)) (fun _ hz => hz.1)
          rw [HDS'.out, ← hsame]
          exact bodyPost_ret (v := treeV (P b') (K - 1)) (by unfold treeV; simp [results, Tryz.results55, go_sem, r0, r1]) rfl ⟨P b', dk, rfl, .inr ⟨_, n', b', rfl, rfl, hrepE⟩, hnd', hsub', hbwE⟩

/-- Tree.Delete. -/
theorem tdelete_any {ok : Nat → Prop} (t : Tree) (rp : Value) (ds : List Nat) (key : Str) (w : World) (hv : TreeV ok w t rp ds) (hnd : ds.Nodup) (ht : TR t) (hp : t.pairs.length ≤ 150) :
    Calls Tryz.prog 55 #[treeV rp t.keys, .string key] w (TrPost ok w (t.delete key) ds) := by
  cases hg : t.get key with
  | none =>
    have : t.delete key = t := by
      unfold Tree.delete
      cases hr : t.root with
      | none => rfl
      | some x =>
        obtain ⟨h, n⟩ := x
        have : Tr.get h n key = none := by unfold Tree.get at hg; rw [hr] at hg; exact hg
        simp [this]
    rw [this]
    exact tdelete_none t rp ds key w hv hnd ht hp hg
  | some v =>
    rcases hv with ⟨hr, _, _⟩ | ⟨h, n, b, hr, rfl, hf⟩
    · unfold Tree.get at hg; rw [hr] at hg; cases hg
    · exact tdelete_some t h b n ds key w hr hf hnd ht hp (by rw [hg]; rfl)
end Go.Proofs.YtemondlgcmpbbaaGreatDoor

/- Walks: Txn.Get. -/
namespace Go.Proofs.YtemondlgcmpbbaaGreatDoor
open Go.RowKit

theorem FRep.only {ok fp : Nat → Prop} {w w' : World} (ho : Only fp w w') (hfp : ∀ z T cs, ok z → Blk w z T cs → Imm T → ¬ fp z) {h : Nat} {t : Tr h} {b : Nat} {ds : List Nat} (hf : FRep ok w h t b ds) : FRep ok w' h t b ds := by
  have hm : ∀ {h : Nat} {t : Tr h} {b : Nat} {ds : List Nat}, FRep ok w h t b ds → FRep (fun z => ok z ∧ z < w.heap.size ∧ ¬ fp z) w h t b ds := by
    intro h
    induction h with
    | zero =>
      intro t b ds ⟨A1, c1, A2, c2, hn, hb, hr, hd⟩
      refine ⟨A1, c1, A2, c2, hn, ⟨hb, Blk.lt hn.node, hfp b _ _ hb hn.node immN⟩, fun h0 a ha => ?_, hd⟩
      obtain ⟨g, cur, e, hg⟩ := hn.ps.row_blk h0
      rw [ha] at e
      injection e with e
      exact ⟨hr h0 a ha, hn.ps.row_lt h0 a ha, hfp _ _ _ (hr h0 a ha) (e ▸ hg) immP⟩
    | succ h ih =>
      intro t b ds ⟨A1, c1, A2, c2, bs, dss, hn, hb, hr, hk, hd⟩
      refine ⟨A1, c1, A2, c2, bs, dss, hn, ⟨hb, Blk.lt hn.node, hfp b _ _ hb hn.node immN⟩, fun h0 a ha => ?_, hk.mono fun _ _ _ hk => ih hk, hd⟩
      obtain ⟨g, cur, e, hg⟩ := hn.ks.row_blk h0
      rw [ha] at e
      injection e with e
      exact ⟨hr h0 a ha, hn.ks.row_lt h0 a ha, hfp _ _ _ (hr h0 a ha) (e ▸ hg) immK⟩
  exact (hm hf).move (fun z hz => ho.block z hz.2.1 hz.2.2) (fun _ hz => hz.1)
theorem TreeV.only {ok fp : Nat → Prop} {w w' : World} {t : Tree} {rp : Value} {ds : List Nat} (h : TreeV ok w t rp ds) (ho : Only fp w w') (hfp : ∀ z T cs, ok z → Blk w z T cs → Imm T → ¬ fp z) : TreeV ok w' t rp ds :=
  h.imp id fun ⟨h, n, b, e1, e2, e3⟩ => ⟨h, n, b, e1, e2, e3.only ho hfp⟩
/-- .. where the blocks that have changed hold something else. -/
theorem TreeV.at1 {ok : Nat → Prop} {w w' : World} {t : Tree} {rp : Value} {ds : List Nat} {x : Nat} {X : TypeId} {cx : Array Value} (h : TreeV ok w t rp ds) (hx : Blk w x X cx) (hX : ¬ Imm X) (ho : Only (· = x) w w') : TreeV ok w' t rp ds :=
  h.only ho fun z T cs _ hz hT e => by subst e; exact Blk.ne_ hz hx (fun e => hX (e ▸ hT)) rfl
theorem notImm {X : TypeId} (h1 : X ≠ 137) (h2 : X ≠ 68) (h3 : X ≠ 139) : ¬ Imm X := fun h => by
  rcases h with h | h | h
  · exact h1 h
  · exact h2 h
  · exact h3 h
theorem TreeV.ptr {ok : Nat → Prop} {w : World} {t : Tree} {rp : Value} {ds : List Nat} (h : TreeV ok w t rp ds) : ∃ q, rp = .pointer q := by
  rcases h with ⟨_, e, _⟩ | ⟨_, _, b, _, e, _⟩
  · exact ⟨_, e⟩
  · exact ⟨_, e⟩

def opGet : ByteArray := ⟨#[103, 101, 116]⟩

set_option maxRecDepth 100000 in
set_option maxHeartbeats 1600000 in
theorem xget_any {ok : Nat → Prop} (t x : Nat) (rp : Value) (T : Tree) (ds : List Nat) (write done : Bool) (stamp : Int) (s : DbS) (k : Str) (w : World) (hT : TxAt w t ⟨x, rp, T.keys, write, done, stamp⟩) (hD : DbAt w x s)
    (hV : TreeV ok w T rp ds) (hR : TR T) (hp : T.pairs.length ≤ 150) (hk : k.size ≤ 9223372036854775807) :
    Calls Tryz.prog 41 #[.pointer (some ⟨t, 0, none⟩), .string k] w fun e w' => ∃ v r, e = .returned (.tuple #[.string (r.getD ByteArray.empty), .bool r.isSome, v]) ∧ (mayK s.poi done false write k = 0 → r = T.get k) ∧ (mayK s.poi done false write k ≠ 0 → r = none) ∧
      AnsV w' w.heap.size v opGet (mayK s.poi done false write k) ∧ DbAt w' x s ∧ TxAt w' t ⟨x, rp, T.keys, write, done, stamp⟩ ∧ Only (· = x) w w' := by
  have t0 : w.cell? ⟨t, 0, none⟩ = some (.pointer (some ⟨x, 0, none⟩)) := cellOf hT 0 rfl
  have htx : t ≠ x := Blk.ne_ hT hD (by decide)
  obtain ⟨q, rfl⟩ := hV.ptr
  have HL := hide (lock_at hD rfl)
  have HT := hide hT
  have HV := hide (fun W (ho : Only (· = x) w W) => hV.at1 hD (notImm (by decide) (by decide) (by decide)) ho)
  have HXL := hide hD.lt
  have HRT := hide hR
  have HP := hide hp
  clear hT hD hV hR hp
  obtain ⟨c, hc⟩ : ∃ c, c = mayK s.poi done false write k := ⟨_, rfl⟩
  rw [← hc]
  have HC := hide hc
  clear hc
  by_cases h0 : c = 0
  · subst h0
    go_enter_defers Tryz.func41, Tryz.ntmps41
    go_wp2_with (first
      | (go_at_call 51; go_loud (
         refine HL.out.mono ?_; rintro e w1 ⟨rfl, hb1, ho1, hs1⟩
         have hT1 := HT.out.only ho1 htx
         have k0 : w1.cell? ⟨t, 0, none⟩ = some (.pointer (some ⟨x, 0, none⟩)) := cellOf hT1 0 rfl
         have HM := hide (may1_any t x _ s 1 opGet k false w1.heap.size (w1.alloc (.cells #[.string k] 9)) (hT1.alloc _) (hb1.alloc _) rfl (cellOf (Blk.new w1 9 #[.string k]) 0 rfl) hk)
         rw [← HC.out] at HM
         have k1 := fun o => cellA o (cellOf hT1 1 rfl)
         have k2 := fun o => cellA o (cellOf hT1 2 rfl)
         have HG := hide (get_any T (.pointer q) ds k (w1.alloc (.cells #[.string k] 9)) ((HV.out w1 ho1).below ((Below.refl _ _).alloc (Nat.le_refl _) _) (fun _ h => h)) HRT.out HP.out)
         unfold treeV getV at HG
         have HT1 := hide hT1
         have HB1 := hide hb1
         have HO1 := hide ho1
         clear hT1 hb1 ho1 hs1))
      | (go_at_call 54; go_loud (
         unfold opGet at HM
         refine HM.out.mono ?_; rintro e w' ⟨v, rfl, ha⟩
         obtain ⟨rfl, rfl⟩ : v = .nilIface ∧ w1.alloc (.cells #[.string k] 9) = w' := by
           rcases ha.2 with h | h
           · exact ⟨h.2.1, h.2.2⟩
           · exact absurd rfl h.1
         clear ha))
      | (go_at_call 56; go_loud (refine HG.out.mono ?_; rintro e w2 ⟨rfl, hb2⟩)))
    have hD2 : Blk w2 x 91 (DbCells s 1) := (HB1.out.alloc _).below hb2 (HB1.out.alloc _).lt
    refine leaves_cons (f := 52) (args := #[.pointer (some ⟨x, 0, none⟩)]) (by simp) (by simp [go_sem]) ?_
    refine (unlock_at .returning hD2 rfl).mono ?_
    rintro e u' w4 ⟨rfl, rfl, hb4, ho4, hs4⟩
    refine ⟨_, by simp [results, Tryz.results41, go_sem], .nilIface, T.get k, rfl, fun _ => rfl, fun h => absurd rfl h, .inl ⟨rfl, rfl⟩, hb4, ?_, ?_⟩
    · exact Blk.only ((HT1.out.alloc _).below hb2 (HT1.out.alloc _).lt) ho4 htx
    · exact ((HO1.out.alloc _).below hb2).trans ho4
  · go_enter_defers Tryz.func41, Tryz.ntmps41
    go_wp2_with (first
      | (go_at_call 51; go_loud (
         refine HL.out.mono ?_; rintro e w1 ⟨rfl, hb1, ho1, hs1⟩
         have hT1 := HT.out.only ho1 htx
         have k0 : w1.cell? ⟨t, 0, none⟩ = some (.pointer (some ⟨x, 0, none⟩)) := cellOf hT1 0 rfl
         have HM := hide (may1_any t x _ s 1 opGet k false w1.heap.size (w1.alloc (.cells #[.string k] 9)) (hT1.alloc _) (hb1.alloc _) rfl (cellOf (Blk.new w1 9 #[.string k]) 0 rfl) hk)
         rw [← HC.out] at HM
         have HT1 := hide hT1
         have HB1 := hide hb1
         have HO1 := hide ho1
         have HS1 := hide hs1
         clear hT1 hb1 ho1 hs1))
      | (go_at_call 54; go_loud (
         unfold opGet at HM
         refine HM.out.mono ?_; rintro e w2 ⟨v, rfl, ha⟩
         have hbl := ha.1
         rcases ha.2 with h | ⟨-, f, rfl, hf, hff⟩
         · exact absurd h.1 h0
         unfold faultV)))
    have hD2 : Blk w2 x 91 (DbCells s 1) := (HB1.out.alloc _).below hbl (HB1.out.alloc _).lt
    refine leaves_cons (f := 52) (args := #[.pointer (some ⟨x, 0, none⟩)]) (by simp) (by simp [go_sem]) ?_
    refine (unlock_at .returning hD2 rfl).mono ?_
    rintro e u' w4 ⟨rfl, rfl, hb4, ho4, hs4⟩
    refine ⟨.tuple #[.string ⟨#[]⟩, .bool false, faultV f], by unfold faultV; simp [results, Tryz.results41, go_sem], faultV f, none, rfl, fun h => absurd h h0, fun _ => rfl, .inr ⟨h0, f, rfl, ?_, ?_⟩, hb4, ?_, ?_⟩
    · have hx1 : x < w1.heap.size := HB1.out.lt
      refine Blk.only hf ho4 (fun e => ?_)
      simp at hff
      omega
    · have := HS1.out; simp at hff; omega
    · exact Blk.only ((HT1.out.alloc _).below hbl (HT1.out.alloc _).lt) ho4 htx
    · exact ((HO1.out.alloc _).below hbl).trans ho4
end Go.Proofs.YtemondlgcmpbbaaGreatDoor
