/- Tc Gt Bw St: merged. -/
import Derived.Test.YtemondlgcmpbbaaGreatDoorMC41
import Derived.Laws.IdiomRangeMap
import Derived.Test.YtemondlgcmpbbaaGreatDoorMC29
/- Walks: Txn.Commit of a transaction that writes, where nobody reads and the device tells no error. -/
namespace Go.Proofs.YtemondlgcmpbbaaGreatDoor
open Go.RowKit

/-- What Commit wants of a store and a transaction. -/
structure CPre (w : World) (K b g base n : Nat) (cv : Value) (m : Nums) (bytes : List UInt8) (cache : List (Nat × List UInt8)) (dk : Nat) (hd : Hd) (T : Tree) (rp : Value) (ds : List Nat) (T0 : Tree) (rp0 : Value) : Prop where
  disk : Dk w K b g base n cv m bytes cache
  calm : m.calm
  dkb : Blk w dk 151 (#[dev b] ++ hd.cells)
  tree : TreeV (fun z => z < w.heap.size) w T rp ds
  nd : ds.Nodup
  old : TreeV (fun z => z < w.heap.size) w T0 rp0 []
  size : 8 ≤ n ∧ n ≤ 400
  slot : hd.slot < 2
  gen : hd.gen + 1 < 1073741824
  fit : TN (fun h n => Tr.size h n ≤ 116 ∧ (h = 0 ∨ 1 ≤ Tr.len h n)) T
  small : TN SmallN T
  room : ds.length ≤ (fr (usedL [(T0, rp0, [])] T) n 2).length
  num : K + ds.length + 10 < edge
  cache_ : cache.length < 80000
theorem CPre.comIn {w W : World} {K b g base n : Nat} {cv : Value} {m : Nums} {bytes : List UInt8} {cache : List (Nat × List UInt8)} {dk : Nat} {hd : Hd} {T : Tree} {rp : Value} {ds : List Nat} {T0 : Tree} {rp0 : Value} (h : CPre w K b g base n cv m bytes cache dk hd T rp ds T0 rp0) {fp : Nat → Prop} (ho : Only fp w W)
    (hne : ∀ y T cs, Blk w y T cs → T ≠ 94 → T ≠ 91 → ¬ fp y) {gr : Nat} (hg : Blk W gr 88 #[rp0, .int .i64 T0.keys]) : ComIn W K b g base n cv m bytes cache dk hd T rp ds (some ⟨gr, 0, none⟩) 1 [(T0, rp0, [])] := by
  have himm : ∀ z T cs, Blk w z T cs → Imm T → ¬ fp z := fun z T' cs hz hT => hne z T' cs hz (fun e => notImm (X := 94) (by decide) (by decide) (by decide) (e ▸ hT)) (fun e => notImm (X := 91) (by decide) (by decide) (by decide) (e ▸ hT))
  have ht : ∀ {T rp ds}, TreeV (fun z => z < w.heap.size) w T rp ds → TreeV (fun z => z < W.heap.size) W T rp ds := fun hv => (hv.only ho fun z T cs _ hz hT => himm z T cs hz hT).more fun z hz => Nat.lt_of_lt_of_le hz ho.size
  refine ⟨h.disk.only ho (fun x hx e => ?_), h.calm, h.dkb.only ho (hne _ _ _ h.dkb (by decide) (by decide)), ht h.tree, h.nd, fun i hi => ?_, ⟨by simp, by simp, by omega⟩, h.size, h.slot, h.gen, h.fit, h.small, h.room, h.num, h.cache_⟩
  · rcases hx with rfl | rfl | hx
    · exact hne _ _ _ h.disk.at_ (by decide) (by decide) e
    · exact hne _ _ _ h.disk.blk (by decide) (by decide) e
    · rcases h.disk.own.2 with ⟨h0, _⟩ | ⟨g', cap, cur, e1, e2, e3, e4⟩
      · rw [h0] at hx; simp [Value.ownBlock] at hx
      · rw [e1] at hx
        have : x = g' := by simpa [Value.ownBlock] using hx
        subst this
        exact hne _ _ _ (show Blk w x 113 cur from e3) (by decide) (by decide) e
  · have : i = 0 := by simp at hi; exact hi
    subst this
    exact ⟨gr, 0, rfl, hg.lt, cellOf hg 0 rfl, cellOf hg 1 rfl, ht h.old⟩

theorem next_none (W : World) (rd clk : Nat) (h : W.heap[rd]? = some (.map #[] clk)) (ty : TypeId) : (Instr.next (.pointer (some ⟨W.heap.size, 0, none⟩)) false ty).run Tryz.prog (W.alloc (.mapIter (some rd) clk #[] clk)) = .ok (.tuple #[.bool false]) (W.alloc (.mapIter (some rd) clk #[] clk)) := by
  rcases run_next_map (P := Tryz.prog) W ty rd clk clk #[] #[] clk h (fun x hx => by cases hx) (Nat.le_refl _) with ⟨_, hrun⟩ | ⟨e, he, _⟩
  · exact hrun
  · have := (mem_left he).1
    cases this

/-- Behind a commit. -/
structure CPost (w : World) (K b g base n : Nat) (cv : Value) (m : Nums) (bytes : List UInt8) (cache : List (Nat × List UInt8)) (hd : Hd) (T : Tree) (rp : Value) (ds : List Nat) (T0 : Tree) (s : DbS) (t x : Nat) (stamp : Int) (w' : World) : Prop where
  db : DbAt w' x ⟨s.dk, rp, T.keys, .pointer none, s.rd, false⟩
  rd : RdAt w' s.rd []
  tx : TxAt w' t ⟨x, rp, T.keys, true, true, stamp⟩
  disk : Dk w' (K + ds.length + 3) b g base n (.slice none 0 0) (wrotes m ds.length).tick.wrote.tick (dset (dflush bytes (cache ++ wlist (T.lay (hd.gen + 1) true (comXs [(T0, s.root, [])] T n ds.length)))) (1 - hd.slot, pad 128 (headB (hd.gen + 1) (T.lay (hd.gen + 1) true (comXs [(T0, s.root, [])] T n ds.length)).rblk (T.lay (hd.gen + 1) true (comXs [(T0, s.root, [])] T n ds.length)).rgen))) []
  dkb : Blk w' s.dk 151 (#[dev b] ++ headV (1 - hd.slot) (hd.gen + 1) (T.lay (hd.gen + 1) true (comXs [(T0, s.root, [])] T n ds.length)).rblk (T.lay (hd.gen + 1) true (comXs [(T0, s.root, [])] T n ds.length)).rgen)
  tree : TreeV (fun z => z < w'.heap.size) w' (T.lay (hd.gen + 1) false (comXs [(T0, s.root, [])] T n ds.length)) rp []
  only : Only (fun y => (dfp b g cv y ∨ y = s.dk ∨ y ∈ ds) ∨ y = t ∨ y = x ∨ y = s.rd) w w'

set_option maxRecDepth 100000 in
set_option maxHeartbeats 3200000 in
theorem xcommit_ok (t x : Nat) (rp : Value) (T : Tree) (ds : List Nat) (stamp : Int) (s : DbS) (T0 : Tree) (K b g base n : Nat) (cv : Value) (m : Nums) (bytes : List UInt8) (cache : List (Nat × List UInt8)) (hd : Hd) (w : World) (hT : TxAt w t ⟨x, rp, T.keys, true, false, stamp⟩) (hD : DbAt w x s) (hpoi : s.poi = false) (hr : RdAt w s.rd []) (hk0 : s.keys = T0.keys)
    (h : CPre w K b g base n cv m bytes cache s.dk hd T rp ds T0 s.root) :
    Calls Tryz.prog 26 #[.pointer (some ⟨t, 0, none⟩)] w fun e w' => e = .returned .nilIface ∧ CPost w K b g base n cv m bytes cache hd T rp ds T0 s t x stamp w' := by
  obtain ⟨q, hq⟩ := h.tree.ptr
  obtain ⟨q0, hq0⟩ := h.old.ptr
  have t0 : w.cell? ⟨t, 0, none⟩ = some (.pointer (some ⟨x, 0, none⟩)) := cellOf hT 0 rfl
  have htx : t ≠ x := Blk.ne_ hT hD (by decide)
  have hrt : s.rd ≠ t := hr.ne_blk hT
  have hrx : s.rd ≠ x := hr.ne_blk hD
  have HL := hide (lock_at hD rfl)
  have HT := hide hT
  have HR := hide hr
  have HD := hide hD
  have H0 := hide h
  have HPOI := hide hpoi
  have HQ := hide hq
  have HQ0 := hide hq0
  have HK0 := hide hk0
  clear hT hD hr h hpoi hq hq0 hk0
  go_enter_defers Tryz.func26, Tryz.ntmps26
  go_upto_region 10 with (first
    | (go_at_call 51; go_loud (
       refine HL.out.mono ?_; rintro e w1 ⟨rfl, hb1, ho1, hs1⟩
       have hT1 := HT.out.only ho1 htx
       have k0 : w1.cell? ⟨t, 0, none⟩ = some (.pointer (some ⟨x, 0, none⟩)) := cellOf hT1 0 rfl
       have HM := hide (may0_any t x _ s 1 ⟨#[99, 111, 109, 109, 105, 116]⟩ false w1 hT1 hb1 rfl)
       have HE := hide (end_any t x _ s 1 [] w1 hT1 hb1 rfl (HR.out.only ho1 hrx) (fun k hk => by cases hk))
       rw [show mayC s.poi false false true = 0 by rw [HPOI.out]; rfl] at HM
       have HO1 := hide ho1
       clear hT1 hb1 ho1 hs1))
    | (go_at_call 54; go_loud (
       refine HM.out.mono ?_; rintro e w' ⟨v, rfl, ha⟩
       obtain ⟨rfl, rfl⟩ : v = .nilIface ∧ w1 = w' := by
         rcases ha.2 with h | h
         · exact ⟨h.2.1, h.2.2⟩
         · exact absurd rfl h.1
       clear ha))
    | (go_at_call 59; go_loud (
       refine HE.out.mono ?_; rintro e w2 ⟨rfl, hT2, hD2, hR2, ho2⟩
       have m0 : w2.cell? ⟨t, 0, none⟩ = some (.pointer (some ⟨x, 0, none⟩)) := cellOf hT2 0 rfl
       have m3 : w2.cell? ⟨t, 3, none⟩ = some (.bool true) := cellOf hT2 3 rfl
       have n3 : w2.cell? ⟨x, 3, none⟩ = some (.pointer q0) := by rw [← HQ0.out]; exact cellOf hD2 3 rfl
       have n4 : w2.cell? ⟨x, 4, none⟩ = some (.int .i64 T0.keys) := by rw [← HK0.out]; exact cellOf hD2 4 rfl
       have HT2 := hide hT2
       have HD2 := hide hD2
       have HR2 := hide hR2
       have HO2 := hide ho2
       clear hT2 hD2 hR2 ho2)))
  have hrm := @run_range_map Tryz.prog
  obtain ⟨es, clk, hm2, hmk⟩ := HR2.out
  obtain rfl : es = #[] := by
    have : es.toList = [] := by simpa using hmk
    exact Array.toList_eq_nil_iff.1 this
  obtain ⟨W3, hW3⟩ : ∃ W3, W3 = w2.alloc (.cells #[.pointer q0, .int .i64 T0.keys] 88) := ⟨_, rfl⟩
  rw [← hW3]
  have hb3 : Below w2.heap.size w2 W3 := by rw [hW3]; exact (Below.refl _ _).alloc (Nat.le_refl _) _
  have hg3 : Blk W3 w2.heap.size 88 #[.pointer q0, .int .i64 T0.keys] := by rw [hW3]; exact Blk.new _ _ _
  have hm3 : W3.heap[s.rd]? = some (.map #[] clk) := (hb3.block s.rd (Array.getElem?_eq_some_iff.1 hm2).1).trans hm2
  have hrg := run_range_map (P := Tryz.prog) W3 89 29 3 s.rd #[] clk Tryz.underlying89 hm3
  have hnx := next_none W3 s.rd clk hm3
  have hb4 : Below W3.heap.size W3 (W3.alloc (.mapIter (some s.rd) clk #[] clk)) := (Below.refl _ _).alloc (Nat.le_refl _) _
  obtain ⟨W4, hW4⟩ : ∃ W4, W4 = W3.alloc (.mapIter (some s.rd) clk #[] clk) := ⟨_, rfl⟩
  rw [← hW4] at hrg hnx hb4
  have hbl4 : Below w2.heap.size w2 W4 := hb3.trans (hb4.mono hb3.size)
  have hT4 : TxAt W4 t ⟨x, rp, T.keys, true, true, stamp⟩ := Blk.below HT2.out hbl4 (Blk.lt HT2.out)
  have hD4 : Blk W4 x 91 (DbCells (s.ended true) 1) := HD2.out.below hbl4 HD2.out.lt
  have n6 : W3.cell? ⟨x, 6, none⟩ = some (.map (some s.rd)) := cellOf (HD2.out.below hb3 HD2.out.lt) 6 rfl
  have n0 : W3.cell? ⟨t, 0, none⟩ = some (.pointer (some ⟨x, 0, none⟩)) := cellOf (Blk.below HT2.out hb3 (Blk.lt HT2.out)) 0 rfl
  have p0 : W4.cell? ⟨t, 0, none⟩ = some (.pointer (some ⟨x, 0, none⟩)) := cellOf hT4 0 rfl
  have p1 : W4.cell? ⟨t, 1, none⟩ = some (.pointer q) := by rw [← HQ.out]; exact cellOf hT4 1 rfl
  have p2 : W4.cell? ⟨t, 2, none⟩ = some (.int .i64 T.keys) := cellOf hT4 2 rfl
  have p3 : W4.cell? ⟨x, 2, none⟩ = some (.pointer (some ⟨s.dk, 0, none⟩)) := cellOf hD4 2 rfl
  have hO4 : Only (fun y => y = t ∨ y = x ∨ y = s.rd) w W4.drew := (((HO1.out.mono fun _ _ h => .inr (.inl h)).trans HO2.out).below hbl4).drew
  have hne4 : ∀ y T cs, Blk w y T cs → T ≠ 94 → T ≠ 91 → ¬ (y = t ∨ y = x ∨ y = s.rd) := fun y T cs hy a1 a2 e => by
    rcases e with e | e | e
    · exact Blk.ne_ hy HT.out a1 e
    · exact Blk.ne_ hy HD.out a2 e
    · exact HR.out.ne_blk hy e.symm
  have hcin : ComIn W4.drew K b g base n cv m bytes cache s.dk hd T rp ds (some ⟨w2.heap.size, 0, none⟩) 1 [(T0, s.root, [])] := H0.out.comIn hO4 hne4 (by rw [HQ0.out]; exact (hg3.below hb4 hg3.lt).drew)
  have COM := hide (show Calls Tryz.prog 60 #[.pointer (some ⟨s.dk, 0, none⟩), treeV rp T.keys, .slice (some ⟨w2.heap.size, 0, none⟩) 1 1] W4.drew _ from commit_any K b g base n cv m bytes cache s.dk hd T rp ds (some ⟨w2.heap.size, 0, none⟩) 1 [(T0, s.root, [])] W4.drew hcin)
  unfold treeV at COM
  rw [HQ.out] at COM
  have HTR := hide hcin
  have HT4 := hide hT4
  have HD4 := hide hD4
  have HO4 := hide hO4
  have HM3 := hide hm3
  have HB4 := hide hb4
  have HW4 := hide hW4
  have S4 := hide (show W4.drew.cell? ⟨t, 0, none⟩ = some (.pointer (some ⟨x, 0, none⟩)) ∧ W4.drew.cell? ⟨x, 2, none⟩ = some (.pointer (some ⟨s.dk, 0, none⟩)) ∧ W4.drew.cell? ⟨t, 1, none⟩ = some (.pointer q) ∧ W4.drew.cell? ⟨t, 2, none⟩ = some (.int .i64 T.keys) from ⟨p0, p3, p1, p2⟩)
  clear hm2 hmk hW3 hb3 hg3 hm3 hbl4 hT4 hD4 hO4 hne4 hcin hb4 hrm m0 m3 n3 n4 p1 p2 p3 hW4
  go_wp2_with fail
  refine wp_loop_rounds 1 ?_
  rw [rounds_succ]
  go_upto_region 14 with fail
  go_region_held3 (fun w' => w'.cell? ⟨t, 0, none⟩ = some (.pointer (some ⟨x, 0, none⟩)) ∧ w'.cell? ⟨x, 2, none⟩ = some (.pointer (some ⟨s.dk, 0, none⟩)) ∧ w'.cell? ⟨t, 1, none⟩ = some (.pointer q) ∧ w'.cell? ⟨t, 2, none⟩ = some (.int .i64 T.keys)) (first | exact S4.out | assumption)
    (first
      | (go_at_call 60; (with_reducible refine COM.out.mono ?_); rintro e w5 ⟨rfl, hout⟩
         have hk5 : ∀ {y T cs}, Blk W4.drew y T cs → T ≠ 103 → T ≠ 111 → T ≠ 113 → T ≠ 151 → T ≠ 137 → Blk w5 y T cs := fun hy a1 a2 a3 a4 a5 => hy.only hout.only fun e => by
           rcases e with e | e | e
           · exact HTR.out.disk.ne hy a1 a2 a3 e
           · exact Blk.ne_ hy HTR.out.dkb a4 e
           · obtain ⟨_, _, _, _, hn⟩ := HTR.out.tree.dirt _ e
             exact Blk.ne_ hy hn a5 rfl
         have hT5 : TxAt w5 t ⟨x, rp, T.keys, true, true, stamp⟩ := hk5 (show Blk W4.drew t _ _ from HT4.out) (by decide) (by decide) (by decide) (by decide) (by decide)
         have hD5 : Blk w5 x 91 (DbCells (s.ended true) 1) := hk5 (show Blk W4.drew x _ _ from HD4.out) (by decide) (by decide) (by decide) (by decide) (by decide)
         have hs5 : w5.cell? ⟨t, 0, none⟩ = some (.pointer (some ⟨x, 0, none⟩)) ∧ w5.cell? ⟨x, 2, none⟩ = some (.pointer (some ⟨s.dk, 0, none⟩)) ∧ w5.cell? ⟨t, 1, none⟩ = some (.pointer q) ∧ w5.cell? ⟨t, 2, none⟩ = some (.int .i64 T.keys) := ⟨cellOf hT5 0 rfl, cellOf hD5 2 rfl, by rw [← HQ.out]; exact cellOf hT5 1 rfl, cellOf hT5 2 rfl⟩
         have S5 := hide hs5
         have HT5 := hide hT5
         have HD5 := hide hD5
         have HOUT := hide hout
         clear hk5 hT5 hD5 hout))
  have u0 : w5.cell? ⟨t, 0, none⟩ = some (.pointer (some ⟨x, 0, none⟩)) := S5.out.1
  have u1 : w5.cell? ⟨t, 1, none⟩ = some (.pointer q) := S5.out.2.2.1
  have u2 : w5.cell? ⟨t, 2, none⟩ = some (.int .i64 T.keys) := S5.out.2.2.2
  have u3 : w5.cell? ⟨x, 3, none⟩ = some s.root := cellOf HD5.out 3 rfl
  have u4 : w5.cell? ⟨x, 4, none⟩ = some (.int .i64 s.keys) := cellOf HD5.out 4 rfl
  have v3 : w5.frozen? ⟨x, 3, none⟩ = false := HD5.out.frozen 3
  have v4 : w5.frozen? ⟨x, 4, none⟩ = false := HD5.out.frozen 4
  have hxt : ¬ x = t := fun e => htx e.symm
  have htx' : ¬ t = x := htx
  have S6 := hide (show ∀ w6, w6 = (w5.setCell ⟨x, 3, none⟩ (.pointer q)).setCell ⟨x, 4, none⟩ (.int .i64 T.keys) → w6.cell? ⟨t, 0, none⟩ = some (.pointer (some ⟨x, 0, none⟩)) ∧ w6.cell? ⟨t, 1, none⟩ = some (.pointer q) ∧ w6.cell? ⟨t, 2, none⟩ = some (.int .i64 T.keys) from fun w6 e => by
    have hO : Only (· = x) w5 w6 := by rw [e]; exact (Only.set1 _ _ _ _).set2 _ _
    have := Blk.only HT5.out hO htx
    exact ⟨cellOf this 0 rfl, by rw [← HQ.out]; exact cellOf this 1 rfl, cellOf this 2 rfl⟩)
  clear n0 n6 p0 hrg hnx
  go_upto_region 16 with fail
  go_region_held3 (fun w' => w'.cell? ⟨t, 0, none⟩ = some (.pointer (some ⟨x, 0, none⟩)) ∧ w'.cell? ⟨t, 1, none⟩ = some (.pointer q) ∧ w'.cell? ⟨t, 2, none⟩ = some (.int .i64 T.keys)) (first | go_keep | exact S6.out _ rfl) (fail)
  go_wp2
  obtain ⟨W6, hW6⟩ : ∃ W6, W6 = ((w5.setCell ⟨x, 3, none⟩ (.pointer q)).setCell ⟨x, 4, none⟩ (.int .i64 T.keys)).drew := ⟨_, rfl⟩
  rw [← hW6]
  have hO6 : Only (· = x) w5 W6 := by rw [hW6]; exact ((Only.set1 _ _ _ _).set2 _ _).drew
  have hD6 : Blk W6 x 91 (DbCells ⟨s.dk, rp, T.keys, .pointer none, s.rd, false⟩ 1) := by
    rw [hW6, HQ.out, ← HPOI.out]
    exact ((HD5.out.set_ 3 (.pointer q)).set_ 4 (.int .i64 T.keys)).drew
  refine leaves_cons (f := 52) (args := #[.pointer (some ⟨x, 0, none⟩)]) (by simp) (by simp [go_sem]) ?_
  refine (unlock_at .returning hD6 rfl).mono ?_
  rintro e u' w7 ⟨rfl, rfl, hb7, ho7, hs7⟩
  have hO57 : Only (· = x) w5 w7 := hO6.trans ho7
  have hmap4 : W4.heap[s.rd]? = some (.map #[] clk) := (HB4.out.block s.rd (Array.getElem?_eq_some_iff.1 HM3.out).1).trans HM3.out
  have hrdn : ¬ (dfp b g cv s.rd ∨ s.rd = s.dk ∨ s.rd ∈ ds) := by
    have hno : ∀ {y T cs}, Blk W4.drew y T cs → s.rd ≠ y := fun hy e => by
      subst e
      have hy : W4.heap[s.rd]? = _ := hy
      rw [hmap4] at hy; cases hy
    rintro (e | e | e)
    · rcases e with e | e | e
      · exact hno HTR.out.disk.at_ e
      · exact hno HTR.out.disk.blk e
      · rcases HTR.out.disk.own.2 with ⟨h0, _⟩ | ⟨g', cap, cur, e1, e2, e3, e4⟩
        · rw [h0] at e; simp [Value.ownBlock] at e
        · rw [e1] at e
          have : s.rd = g' := by simpa [Value.ownBlock] using e
          exact hno (show Blk W4.drew g' 113 cur from e3) this
    · exact hno HTR.out.dkb e
    · obtain ⟨_, _, _, _, hn⟩ := HTR.out.tree.dirt _ e
      exact hno hn rfl
  have hmap5 : w5.heap[s.rd]? = some (.map #[] clk) := (HOUT.out.only.block s.rd (Array.getElem?_eq_some_iff.1 hmap4).1 hrdn).trans hmap4
  have hrd7 : RdAt w7 s.rd [] := RdAt.only (⟨#[], clk, hmap5, rfl⟩ : RdAt w5 s.rd []) hO57 hrx
  refine ⟨.nilIface, by simp [results, Tryz.results26, go_sem], rfl, ⟨hb7, hrd7, Blk.only HT5.out hO57 htx, HOUT.out.disk.only hO57 (fun y hy e => ?_), HOUT.out.dkb.only hO57 (fun e => Blk.ne_ HOUT.out.dkb HD5.out (by decide) e), ?_, ?_⟩⟩
  · subst e; exact HOUT.out.disk.ne HD5.out (by decide) (by decide) (by decide) hy
  · rw [HQ.out]; exact (HOUT.out.tree.at1 HD5.out (notImm (by decide) (by decide) (by decide)) hO57).more fun z hz => Nat.lt_of_lt_of_le hz (Nat.le_trans HOUT.out.only.size hO57.size)
  · exact ((HO4.out.mono fun y _ h => .inr h).trans (HOUT.out.only.mono fun y _ h => .inl h)).trans (hO57.mono fun y _ h => .inr (.inr (.inl h)))
end Go.Proofs.YtemondlgcmpbbaaGreatDoor

/- Plain: what holds of each tree of a store: all that Put, Delete and Commit want. -/
namespace Go.Proofs.YtemondlgcmpbbaaGreatDoor
open Go.RowKit

theorem lay_KS {V : Str → Prop} (g : Nat) (d : Bool) : ∀ (h : Nat) (n : Tr h) (xs : List Nat), KS V h n → KS V h (lay g d h n xs)
  | 0, n, xs, hn => by
    by_cases hd : Nd.dirty n = true
    · rw [lay_pos0 xs hd]; exact hn
    · rw [lay_neg0 xs hd]; exact hn
  | h + 1, n, xs, hn => by
    have hk : ∀ (X : List (Str × Tr h)) (ys : List Nat), KL V h X → KL V h (layK (lay g d h) X ys) := by
      intro X
      induction X with
      | nil => intro _ _ e he; cases he
      | cons a X ih =>
        intro ys h1 e he
        obtain ⟨k, c⟩ := a
        simp only [layK] at he
        rcases List.mem_cons.1 he with rfl | he
        · have := h1 (k, c) (by simp)
          exact ⟨this.1, lay_KS g d h c _ this.2⟩
        · exact ih _ (fun e he => h1 e (by simp [he])) e he
    by_cases hd : Nd.dirty n = true
    · rw [lay_pos1 xs hd]; exact hk (Nd.es n) xs hn
    · rw [lay_neg1 xs hd]; exact hk (Nd.es n) xs hn
theorem TK.lay {V : Str → Prop} {t : Tree} (ht : TK V t) (g : Nat) (d : Bool) (xs : List Nat) : TK V (t.lay g d xs) := by
  refine ⟨fun h n hr => ?_⟩
  unfold Tree.lay at hr
  cases h' : t.root with
  | none => rw [h'] at hr; cases hr
  | some r =>
    rw [h'] at hr
    simp only [Option.map_some, Option.some.injEq] at hr
    cases hr
    exact lay_KS g d r.1 r.2 xs (ht.some_ r.1 r.2 h')
theorem reg_len_NS : ∀ (h : Nat) (n : Tr h), Reg h n → NS (fun h n => h = 0 ∨ 1 ≤ Tr.len h n) h n
  | 0, _, _ => .inl rfl
  | h + 1, n, hr => ⟨.inr (show 1 ≤ (Nd.es n).length by have : 3 ≤ (Nd.es n).length := hr.1; omega), fun e he => reg_len_NS h e.2 (hr.2 e he)⟩
theorem top_len_NS : ∀ (h : Nat) (n : Tr h), Top h n → NS (fun h n => h = 0 ∨ 1 ≤ Tr.len h n) h n
  | 0, _, _ => .inl rfl
  | h + 1, n, ht => by
    rcases ht with ⟨h1, h2⟩ | ⟨e, he, ht⟩
    · exact ⟨.inr (show 1 ≤ (Nd.es n).length by have : 2 ≤ (Nd.es n).length := h1; omega), fun e he => reg_len_NS h e.2 (h2 e he)⟩
    · refine ⟨.inr (show 1 ≤ (Nd.es n).length by rw [he]; simp), fun x hx => ?_⟩
      rw [he] at hx
      rw [List.mem_singleton.1 hx]
      exact top_len_NS h e.2 ht
theorem TF.q0 {t : Tree} (ht : TF t) : TN Q0 t := fun h n hr => by
  obtain ⟨a, b, _, _⟩ := ht.some_ h n hr
  exact (fit_NS h n b).and (top_len_NS h n a)

/-- What holds of each tree of a store. -/
structure Good (V : Str → Prop) (t : Tree) : Prop where
  tr : TR t
  tf : TF t
  tk : TK V t
  sm : TN SmallN t
  few : t.keys ≤ 129
theorem Good.empty {V : Str → Prop} : Good V ⟨none, 0⟩ := ⟨TR.empty, TF.empty, TK.empty, TN.empty, Nat.zero_le _⟩
theorem Good.pairs {V : Str → Prop} {t : Tree} (h : Good V t) : t.pairs.length ≤ 150 := by have := h.few; rw [h.tr.tw.keys_] at this; omega
theorem Good.put {V : Str → Prop} {t : Tree} (h : Good V t) (h0 : V noKey) {k v : Str} (hk : V k) (h1 : okKey k) (h2 : okVal v) (hf : (t.put k v).keys ≤ 129) : Good V (t.put k v) ∧ tdirty (t.put k v) ≤ tdirty t + 9 := by
  have := put_TF h.tr.tw h.tf h1 h2 hf
  exact ⟨⟨h.tr.put h1 h2, this.1, h.tk.put h0 hk, h.sm.put smallQ k v, hf⟩, this.2⟩
theorem delete_keys_le (t : Tree) (k : Str) : (t.delete k).keys ≤ t.keys := by
  unfold Tree.delete
  split
  · exact Nat.le_refl _
  · split
    · exact Nat.sub_le _ _
    · exact Nat.le_refl _
theorem Good.delete8 {V : Str → Prop} (hV : ∀ k, V k → V8 k) {t : Tree} (h : Good V t) (h0 : V noKey) (k : Str) : Good V (t.delete k) ∧ tdirty (t.delete k) ≤ tdirty t + 9 := by
  have := delete_TF8 h.tr.tw h.tf (h.tk.mono hV) k h.few
  exact ⟨⟨h.tr.delete k, this.1, h.tk.delete h0 k, h.sm.delete smallQ k, Nat.le_trans (delete_keys_le t k) h.few⟩, this.2⟩
theorem lay_sm {t : Tree} {g n0 : Nat} {xs : List Nat} (hg : g < 4294967296) (h0 : 0 < n0) (hn0 : n0 ≤ 65536) (hq : TN Q0 t) (hs : TN SmallN t) (hx : ∀ x ∈ xs, x < n0) : TN SmallN (t.lay g false xs) := by
  intro h n hr
  unfold Tree.lay at hr
  cases h' : t.root with
  | none => rw [h'] at hr; cases hr
  | some r =>
    rw [h'] at hr
    simp only [Option.map_some, Option.some.injEq] at hr
    cases hr
    rcases lay_NS (d := false) hg h0 hn0 r.1 r.2 xs (hq r.1 r.2 h') (hs r.1 r.2 h') hx with h | ⟨_, e2⟩
    · exact h.mono fun _ _ h => h.2.1
    · rw [lay_clean g false r.1 r.2 xs e2]; exact hs r.1 r.2 h'
theorem Good.lay {V : Str → Prop} {t : Tree} (h : Good V t) {g n0 : Nat} {xs : List Nat} (hg : g < 4294967296) (h0 : 0 < n0) (hn0 : n0 ≤ 65536) (hx : ∀ x ∈ xs, x < n0) : Good V (t.lay g false xs) ∧ tdirty (t.lay g false xs) = 0 :=
  ⟨⟨h.tr.lay g false xs, (h.tf.laid g xs).1, h.tk.lay g false xs, lay_sm hg h0 hn0 h.tf.q0 h.sm hx, h.few⟩, (h.tf.laid g xs).2⟩

/-- Where there is room. -/
theorem room_of {V V' : Str → Prop} {t t0 : Tree} {rp0 : Value} {ds : List Nat} {n : Nat} (h : Good V t) (h0 : Good V' t0) (hd : ds.length = tdirty t) (hn : t.keys + t0.keys + 10 ≤ n) : ds.length ≤ (fr (usedL [(t0, rp0, [])] t) n 2).length := by
  have h1 := fr_len (usedL [(t0, rp0, [])] t) n 2
  have h2 : (usedL [(t0, rp0, [])] t).length ≤ tnodes t0 + (tnodes t - tdirty t) := by
    unfold usedL
    have a := inss_len t.cblks (([(t0, rp0, ([] : List Nat))].flatMap fun r => r.1.blks).foldl ins [])
    have b := inss_len ([(t0, rp0, ([] : List Nat))].flatMap fun r => r.1.blks) []
    have c : ([(t0, rp0, ([] : List Nat))].flatMap fun r => r.1.blks).length = tnodes t0 := by simp [Tree.blks_len]
    have d := t.cblks_len
    simp only [List.length_nil] at b
    omega
  have h3 := h.tf.nodes_le h.tr.tw h.few
  have h4 := h0.tf.nodes_le h0.tr.tw h0.few
  have h5 := t.cblks_len
  omega
end Go.Proofs.YtemondlgcmpbbaaGreatDoor

/- Walks: Begin of a transaction that writes; the store as one thing. -/
namespace Go.Proofs.YtemondlgcmpbbaaGreatDoor
open Go.RowKit

set_option maxRecDepth 100000 in
set_option maxHeartbeats 1000000 in
theorem begin_w (x : Nat) (s : DbS) (w : World) (h : DbAt w x s) (hp : s.poi = false) (hw : s.writer = .pointer none) :
    Calls Tryz.prog 22 #[.pointer (some ⟨x, 0, none⟩), .bool true] w fun e w' => ∃ t, e = .returned (.tuple #[.pointer (some ⟨t, 0, none⟩), .nilIface]) ∧ TxAt w' t ⟨x, s.root, s.keys, true, false, 0⟩ ∧ DbAt w' x { s with writer := .pointer (some ⟨t, 0, none⟩) } ∧ w.heap.size ≤ t ∧ Only (fun y => y = x) w w' := by
  obtain ⟨dk, root, keys, writer, rd, poi⟩ := s
  simp only at hp hw
  subst hp
  subst hw
  have HL := hide (lock_at h rfl)
  have HXL := hide h.lt
  clear h
  go_enter_defers Tryz.func22, Tryz.ntmps22
  go_wp2_with (go_at_call 51; refine HL.out.mono ?_; rintro e w1 ⟨rfl, hb1, ho1, hs1⟩
               have c2 : w1.cell? ⟨x, 3, none⟩ = some root := cellOf hb1 3 rfl
               have c3 : w1.cell? ⟨x, 4, none⟩ = some (.int .i64 keys) := cellOf hb1 4 rfl
               have c5 : w1.cell? ⟨x, 5, none⟩ = some (.pointer none) := cellOf hb1 5 rfl
               have c7 : w1.cell? ⟨x, 7, none⟩ = some (.bool false) := cellOf hb1 7 rfl
               have c5' := fun o => cellA o c5
               have f5 : w1.frozen? ⟨x, 5, none⟩ = false := hb1.frozen 5
               have f5' : ∀ cs T, (w1.alloc (.cells cs T)).frozen? ⟨x, 5, none⟩ = false := fun cs T => (hb1.alloc (.cells cs T)).frozen 5
               have hxne : ¬ x = w1.heap.size := by have := hb1.lt; omega
               have hxne' : ¬ w1.heap.size = x := fun e => hxne e.symm
               have HB1 := hide hb1
               have HO1 := hide ho1
               have HS1 := hide hs1
               clear hb1 ho1 hs1)
  have hxl := HXL.out
  have hz1 := HS1.out
  have hN := Blk.new w1 94 #[.pointer (some ⟨x, 0, none⟩), root, .int .i64 keys, .bool true, .bool false, .int .i64 0]
  have hA := HB1.out.alloc (.cells #[.pointer (some ⟨x, 0, none⟩), root, .int .i64 keys, .bool true, .bool false, .int .i64 0] 94)
  have hb3 := hA.set_ 5 (.pointer (some ⟨w1.heap.size, 0, none⟩))
  have hT3 := hN.far (p := ⟨x, 5, none⟩) hxne' (.pointer (some ⟨w1.heap.size, 0, none⟩))
  have hsz : w1.heap.size = w.heap.size := hz1
  have ho3 : Only (fun y => y = x) w1 ((w1.alloc (.cells #[.pointer (some ⟨x, 0, none⟩), root, .int .i64 keys, .bool true, .bool false, .int .i64 0] 94)).setCell ⟨x, 5, none⟩ (.pointer (some ⟨w1.heap.size, 0, none⟩))) := Only.set2 ((Only.refl _ _).alloc _) 5 _
  refine leaves_cons (f := 52) (args := #[.pointer (some ⟨x, 0, none⟩)]) (by simp) (by simp [go_sem]) ?_
  refine (unlock_at .returning hb3 rfl).mono ?_
  rintro e u' w4 ⟨rfl, rfl, hb4, ho4, hs4⟩
  refine ⟨_, results_tmp2 rfl _ _ _, ?_⟩
  refine ⟨w1.heap.size, rfl, Blk.only hT3 ho4 (by omega), hb4, by omega, ?_⟩
  exact ((HO1.out.trans ho3).trans ho4)
end Go.Proofs.YtemondlgcmpbbaaGreatDoor

/- The store as one thing: at rest; with one transaction that writes. Begin, Put, Delete, Commit, Abort over it. -/
namespace Go.Proofs.YtemondlgcmpbbaaGreatDoor
open Go.RowKit

/-- What a store keeps, and where. -/
structure SR where
  g : Nat
  base : Nat
  m : Nums
  bytes : List UInt8
  dk : Nat
  rd : Nat
  hd : Hd
  rp : Value

/-- A store on a disk of n blocks: nothing waits to be flushed; the blocks in memory lie at N and behind it. -/
structure Store (N : Nat) (w : World) (K b n x G : Nat) (wr : Value) (T : Tree) (r : SR) : Prop where
  disk : Dk w K b r.g r.base n (.slice none 0 0) r.m r.bytes []
  calm : r.m.calm
  dkb : Blk w r.dk 151 (#[dev b] ++ r.hd.cells)
  slot : r.hd.slot < 2
  gen : r.hd.gen ≤ G
  db : DbAt w x ⟨r.dk, r.rp, T.keys, wr, r.rd, false⟩
  rd : RdAt w r.rd []
  tree : TreeV (fun z => z < w.heap.size) w T r.rp []
  nb : N ≤ b
  ng : N ≤ r.g
  ndk : N ≤ r.dk
  nx : N ≤ x
  nrd : N ≤ r.rd

/-- A transaction that writes: its tree is T; the store's is T0. -/
structure Trans (N : Nat) (w : World) (t x S : Nat) (T : Tree) (rp : Value) (ds : List Nat) (stamp : Int) : Prop where
  tx : TxAt w t ⟨x, rp, T.keys, true, false, stamp⟩
  tree : TreeV (fun z => z < w.heap.size) w T rp ds
  nd : ds.Nodup
  nds : ∀ y ∈ ds, N ≤ y
  nt : N ≤ t
  s0 : 0 ≤ stamp
  s1 : stamp ≤ S

theorem TreeV.up_ {w w' : World} {T : Tree} {rp : Value} {ds : List Nat} (h : TreeV (up (fun z => z < w.heap.size) w.heap.size) w' T rp ds) : TreeV (fun z => z < w'.heap.size) w' T rp ds :=
  (TreeV.restr (fp := fun _ => False) (fun _ _ _ _ _ => id) h).more fun _ h => h.2.1
theorem imm_tx {x : Nat} {w : World} {cs : Array Value} (hx : Blk w x 94 cs) {z : Nat} {T : TypeId} {cz : Array Value} (hz : Blk w z T cz) (hT : Imm T) : z ≠ x := fun e => by
  subst e
  exact Blk.ne_ hz hx (fun e => notImm (X := 94) (by decide) (by decide) (by decide) (e ▸ hT)) rfl
theorem imm_db {x : Nat} {w : World} {cs : Array Value} (hx : Blk w x 91 cs) {z : Nat} {T : TypeId} {cz : Array Value} (hz : Blk w z T cz) (hT : Imm T) : z ≠ x := fun e => by
  subst e
  exact Blk.ne_ hz hx (fun e => notImm (X := 91) (by decide) (by decide) (by decide) (e ▸ hT)) rfl

section
variable {N K b n x G : Nat} {wr : Value} {T : Tree} {r : SR} {w w' : World}

/-- The store behind what writes to it and to a transaction alone. -/
theorem Store.step (h : Store N w K b n x G wr T r) {t : Nat} (ht : ∀ y T' cs, Blk w y T' cs → T' ≠ 94 → y ≠ t) (hrt : r.rd ≠ t) (ho : Only (fun y => y = t ∨ y = x) w w') {wr' : Value} (hd : DbAt w' x ⟨r.dk, r.rp, T.keys, wr', r.rd, false⟩) : Store N w' K b n x G wr' T r := by
  have hno : ∀ {y T' cs}, Blk w y T' cs → T' ≠ 94 → T' ≠ 91 → ¬ (y = t ∨ y = x) := fun hy h1 h2 e => by
    rcases e with e | e
    · exact ht _ _ _ hy h1 e
    · exact Blk.ne_ hy h.db h2 e
  refine ⟨h.disk.only ho (fun y hy e => ?_), h.calm, h.dkb.only ho (hno h.dkb (by decide) (by decide)), h.slot, h.gen, hd, ?_, ?_, h.nb, h.ng, h.ndk, h.nx, h.nrd⟩
  · rcases hy with rfl | rfl | hy
    · exact hno h.disk.at_ (by decide) (by decide) e
    · exact hno h.disk.blk (by decide) (by decide) e
    · simp [Value.ownBlock] at hy
  · exact h.rd.only ho (fun e => e.elim hrt (h.rd.ne_blk h.db))
  · exact (h.tree.only ho fun z T' cs _ hz hT => hno hz (fun e => notImm (X := 94) (by decide) (by decide) (by decide) (e ▸ hT)) (fun e => notImm (X := 91) (by decide) (by decide) (by decide) (e ▸ hT))).more fun z hz => Nat.lt_of_lt_of_le hz ho.size
theorem Store.below (h : Store N w K b n x G wr T r) (hb : Below w.heap.size w w') : Store N w' K b n x G wr T r :=
  ⟨h.disk.below hb, h.calm, h.dkb.below hb h.dkb.lt, h.slot, h.gen, Blk.below h.db hb (Blk.lt h.db), h.rd.only (Only.of_below (fp := fun _ => False) hb) id, (h.tree.below hb fun _ k => k).more fun _z hz => Nat.lt_of_lt_of_le hz hb.size, h.nb, h.ng, h.ndk, h.nx, h.nrd⟩
theorem Trans.below {t S : Nat} {rp : Value} {ds : List Nat} {stamp : Int} (h : Trans N w t x S T rp ds stamp) (hb : Below w.heap.size w w') : Trans N w' t x S T rp ds stamp :=
  ⟨Blk.below h.tx hb (Blk.lt h.tx), (h.tree.below hb fun _ k => k).more fun _z hz => Nat.lt_of_lt_of_le hz hb.size, h.nd, h.nds, h.nt, h.s0, h.s1⟩
theorem Store.size (h : Store N w K b n x G wr T r) : N ≤ w.heap.size := Nat.le_trans h.nx (Nat.le_of_lt (Blk.lt h.db))

theorem st_begin (h : Store N w K b n x G (.pointer none) T r) :
    Calls Tryz.prog 22 #[.pointer (some ⟨x, 0, none⟩), .bool true] w fun e w' => ∃ t, e = .returned (.tuple #[.pointer (some ⟨t, 0, none⟩), .nilIface]) ∧ Store N w' K b n x G (.pointer (some ⟨t, 0, none⟩)) T r ∧ Trans N w' t x 0 T r.rp [] 0 ∧ Below N w w' := by
  refine (begin_w x _ w h.db rfl rfl).mono ?_
  rintro e w' ⟨t, rfl, hT, hD, ht, ho⟩
  have hst : Store N w' K b n x G (.pointer (some ⟨t, 0, none⟩)) T r := h.step (t := t) (fun y T' cs hy _ => by have := hy.lt; omega) (by have := h.rd.lt; omega) (ho.mono fun _ _ h => .inr h) hD
  exact ⟨t, rfl, hst, ⟨hT, hst.tree, List.nodup_nil, (fun y hy => by cases hy), Nat.le_trans h.size ht, Int.le_refl _, Int.le_refl _⟩, ho.to_below h.size fun y e => e ▸ h.nx⟩

theorem st_put {t S : Nat} {T1 : Tree} {rp : Value} {ds : List Nat} {stamp : Int} (k v : Str) (h : Store N w K b n x G (.pointer (some ⟨t, 0, none⟩)) T r) (ht : Trans N w t x S T1 rp ds stamp) (hR : TR T1) (hp : T1.pairs.length ≤ 150) (h1 : okKey k) (h2 : okVal v) (hS : S ≤ 1000000000) (hroom : (T1.get k).isSome = true ∨ (T1.keys : Int) < roomN n) :
    Calls Tryz.prog 24 #[.pointer (some ⟨t, 0, none⟩), .string k, .string v] w fun e w' => e = .returned .nilIface ∧ Store N w' K b n x G (.pointer (some ⟨t, 0, none⟩)) T r ∧ (∃ rp' ds', Trans N w' t x (S + 1) (T1.put k v) rp' ds' (stamp + 1)) ∧ Below N w w' := by
  have hm : mayK false false true true k = 0 := by
    have := h1.1; have := h1.2
    show (if k.size < 1 ∨ 8 < k.size then 1 else 0) = 0
    rw [if_neg (by omega)]
  refine (xput_ok t x rp T1 ds true false stamp _ k v w ht.tx h.db ht.tree ht.nd hR hp h1 h2 ht.s0 (by have := ht.s1; omega) hm b n n r.hd (some ⟨r.g, 0, none⟩) (.slice none 0 0) r.m h.dkb h.disk.at_ h.disk.fits hroom).mono ?_
  rintro e w' ⟨rfl, hD, ⟨rp', ds', a1, a2, a3, a4⟩, ho⟩
  refine ⟨rfl, h.step (t := t) (fun y T' cs hy e => Blk.ne_ hy ht.tx e) (h.rd.ne_blk ht.tx) ho hD, ⟨rp', ds', a1, a2.up_, a3, fun y hy => ?_, ht.nt, by have := ht.s0; omega, by have := ht.s1; omega⟩, ho.to_below h.size fun y e => ?_⟩
  · rcases a4 y hy with h' | h'
    · exact ht.nds y h'
    · exact Nat.le_trans h.size h'
  · rcases e with rfl | rfl
    · exact ht.nt
    · exact h.nx

theorem st_delete {t S : Nat} {T1 : Tree} {rp : Value} {ds : List Nat} {stamp : Int} (k : Str) (h : Store N w K b n x G (.pointer (some ⟨t, 0, none⟩)) T r) (ht : Trans N w t x S T1 rp ds stamp) (hR : TR T1) (hp : T1.pairs.length ≤ 150) (h1 : okKey k) (hS : S ≤ 1000000000) :
    Calls Tryz.prog 23 #[.pointer (some ⟨t, 0, none⟩), .string k] w fun e w' => e = .returned .nilIface ∧ Store N w' K b n x G (.pointer (some ⟨t, 0, none⟩)) T r ∧ (∃ rp' ds', Trans N w' t x (S + 1) (T1.delete k) rp' ds' (stamp + 1)) ∧ Below N w w' := by
  have hm : mayK false false true true k = 0 := by
    have := h1.1; have := h1.2
    show (if k.size < 1 ∨ 8 < k.size then 1 else 0) = 0
    rw [if_neg (by omega)]
  refine (xdelete_any t x rp T1 ds true false stamp _ k w ht.tx h.db ht.tree ht.nd hR hp (by have := h1.2; omega) ht.s0 (by have := ht.s1; omega)).mono ?_
  rintro e w' ⟨v, rfl, hv, hD, -, hc, ho⟩
  obtain ⟨rp', ds', a1, a2, a3, a4⟩ := hc hm
  obtain rfl : v = .nilIface := by
    rcases hv with h | h
    · exact h.2
    · exact absurd hm h.1
  refine ⟨rfl, h.step (t := t) (fun y T' cs hy e => Blk.ne_ hy ht.tx e) (h.rd.ne_blk ht.tx) ho hD, ⟨rp', ds', a1, a2.up_, a3, fun y hy => ?_, ht.nt, by have := ht.s0; omega, by have := ht.s1; omega⟩, ho.to_below h.size fun y e => ?_⟩
  · rcases a4 y hy with h' | h'
    · exact ht.nds y h'
    · exact Nat.le_trans h.size h'
  · rcases e with rfl | rfl
    · exact ht.nt
    · exact h.nx

theorem wrotes_writes (m : Nums) : ∀ k : Nat, (wrotes m k).writes = m.writes + k
  | 0 => by simp [wrotes]
  | k + 1 => by
    show (wrotes m k).writes + 1 = _
    rw [wrotes_writes m k]; omega
theorem Dk.more {K' g base : Nat} {cv : Value} {m : Nums} {bytes : List UInt8} {cache : List (Nat × List UInt8)} (h : Dk w K b g base n cv m bytes cache) (hK : K ≤ K') : Dk w K' b g base n cv m bytes cache := ⟨h.at_, h.blk, h.len, h.own, h.ok, h.many, h.num.mono hK, h.fits, h.base_⟩

theorem Store.more {K' : Nat} (h : Store N w K b n x G wr T r) (hK : K ≤ K') : Store N w K' b n x G wr T r := ⟨h.disk.more hK, h.calm, h.dkb, h.slot, h.gen, h.db, h.rd, h.tree, h.nb, h.ng, h.ndk, h.nx, h.nrd⟩

theorem st_commit {V V' : Str → Prop} {t S : Nat} {T1 : Tree} {rp : Value} {ds : List Nat} {stamp : Int} (h : Store N w K b n x G (.pointer (some ⟨t, 0, none⟩)) T r) (ht : Trans N w t x S T1 rp ds stamp) (hg : Good V T1) (hg0 : Good V' T) (hn : 8 ≤ n ∧ n ≤ 400) (hG : G + 1 < 1073741824) (hK : K + 200 < edge) (hroom : T1.keys + T.keys + 10 ≤ n) (hd : tdirty T1 ≤ 190) :
    Calls Tryz.prog 26 #[.pointer (some ⟨t, 0, none⟩)] w fun e w' => e = .returned .nilIface ∧ (∃ T' r', Store N w' (K + 200) b n x (G + 1) (.pointer none) T' r' ∧ Good V T' ∧ tdirty T' = 0 ∧ T'.pairs = T1.pairs ∧ T'.keys = T1.keys ∧ r'.m.writes = r.m.writes + tdirty T1 + 1) ∧ Below N w w' := by
  have hlen : ds.length = tdirty T1 := ht.tree.count
  refine (xcommit_ok t x rp T1 ds stamp ⟨r.dk, r.rp, T.keys, .pointer (some ⟨t, 0, none⟩), r.rd, false⟩ T K b r.g r.base n (.slice none 0 0) r.m r.bytes [] r.hd w ht.tx h.db rfl h.rd rfl
    ⟨h.disk, h.calm, h.dkb, ht.tree, ht.nd, h.tree, hn, h.slot, by have := h.gen; omega, hg.tf.q0, hg.sm, room_of hg hg0 hlen hroom, by omega, by simp⟩).mono ?_
  rintro e w' ⟨rfl, hp⟩
  have hgen := h.gen
  have hlay := hg.lay (g := r.hd.gen + 1) (n0 := n) (xs := comXs [(T, r.rp, [])] T1 n ds.length) (by omega) (by omega) (by omega) (fun y hy => (fr_mem (List.mem_of_mem_take hy)).2.1)
  refine ⟨rfl, ⟨T1.lay (r.hd.gen + 1) false (comXs [(T, r.rp, [])] T1 n ds.length), ⟨r.g, r.base, _, _, r.dk, r.rd, ⟨1 - r.hd.slot, r.hd.gen + 1, _, _⟩, rp⟩, ⟨hp.disk.more (by omega), ?_, hp.dkb, by show 1 - r.hd.slot < 2; omega, by show r.hd.gen + 1 ≤ G + 1; omega, hp.db, hp.rd, hp.tree, h.nb, h.ng, h.ndk, h.nx, h.nrd⟩, hlay.1, hlay.2, Tree.lay_pairs _ _ _ _, rfl, ?_⟩, hp.only.to_below h.size fun y e => ?_⟩
  · exact ((wrotes_calm h.calm _).tick.wrote).tick
  · show ((wrotes r.m ds.length).writes + 1 : Int) = _
    rw [wrotes_writes, hlen]
  · rcases e with (e | rfl | e) | rfl | rfl | rfl
    · rcases e with rfl | rfl | e
      · exact h.nb
      · exact h.ng
      · simp [Value.ownBlock] at e
    · exact h.ndk
    · exact ht.nds y e
    · exact ht.nt
    · exact h.nx
    · exact h.nrd

theorem st_abort {t S : Nat} {T1 : Tree} {rp : Value} {ds : List Nat} {stamp : Int} (h : Store N w K b n x G (.pointer (some ⟨t, 0, none⟩)) T r) (ht : Trans N w t x S T1 rp ds stamp) :
    Calls Tryz.prog 27 #[.pointer (some ⟨t, 0, none⟩)] w fun e w' => e = .returned .nilIface ∧ Store N w' K b n x G (.pointer none) T r ∧ TxAt w' t ⟨x, rp, T1.keys, true, true, stamp⟩ ∧ Below N w w' := by
  refine (abort_any t x _ _ [] w ht.tx h.db rfl h.rd (fun k hk => by cases hk) rfl).mono ?_
  rintro e w' ⟨rfl, hT, hD, hr, ho⟩
  have hno : ∀ {y T' cs}, Blk w y T' cs → T' ≠ 94 → T' ≠ 91 → ¬ (y = t ∨ y = x ∨ y = r.rd) := fun hy h1 h2 e => by
    rcases e with e | e | e
    · exact Blk.ne_ hy ht.tx h1 e
    · exact Blk.ne_ hy h.db h2 e
    · exact h.rd.ne_blk hy e.symm
  refine ⟨rfl, ⟨h.disk.only ho (fun y hy e => ?_), h.calm, h.dkb.only ho (hno h.dkb (by decide) (by decide)), h.slot, h.gen, hD, hr, (h.tree.only ho fun z T' cs _ hz hT => hno hz (fun e => notImm (X := 94) (by decide) (by decide) (by decide) (e ▸ hT)) (fun e => notImm (X := 91) (by decide) (by decide) (by decide) (e ▸ hT))).more fun z hz => Nat.lt_of_lt_of_le hz ho.size, h.nb, h.ng, h.ndk, h.nx, h.nrd⟩, hT, ho.to_below h.size fun y e => ?_⟩
  · rcases hy with rfl | rfl | hy
    · exact hno h.disk.at_ (by decide) (by decide) e
    · exact hno h.disk.blk (by decide) (by decide) e
    · simp [Value.ownBlock] at hy
  · rcases e with rfl | rfl | rfl
    · exact ht.nt
    · exact h.nx
    · exact h.nrd
end
end Go.Proofs.YtemondlgcmpbbaaGreatDoor
