/- Walks: what is known of a disk (shadowref.Disk), where all maps are empty. -/
import Derived.Test.YtemondlgcmpbbaaGreatDoorAp
import Derived.Test.YtemondlgcmpbbaaGreatDoorTo
import Derived.Deep.DeepCutAuto
namespace Go.Proofs.YtemondlgcmpbbaaGreatDoor
open Go.RowKit

def eMap : Value := .slice none 0 0
/-- A list of k empty maps. -/
def MapsAt (w : World) (v : Value) (k : Nat) : Prop := w.ownsRow 0 241 1 v k (List.replicate k eMap)
theorem MapsAt.only {fp : Nat → Prop} {w w' : World} {v : Value} {k : Nat} (h : MapsAt w v k) (ho : Only fp w w') (hf : ∀ x cs, Blk w x 241 cs → ¬ fp x) : MapsAt w' v k := ownN_only h ho hf
theorem MapsAt.below {w w' : World} {v : Value} {k : Nat} (h : MapsAt w v k) (hb : Below w.heap.size w w') : MapsAt w' v k := ownN_below h hb
theorem MapsAt.nil (w : World) : MapsAt w (.slice none 0 0) 0 := World.ownsRow_nil _ _ _ _
theorem MapsAt.form {w : World} {v : Value} {k : Nat} (h : MapsAt w v k) : ∃ A c, v = .slice A k c ∧ Reads w w.heap.size 1 A k (List.replicate k eMap) := by
  obtain ⟨A, c, rfl, _⟩ := ownN_form h
  exact ⟨A, c, rfl, Reads.of_own h⟩

theorem ownN_only' {w w' : World} {base s n : Nat} {T : TypeId} {v : Value} {xs : List Value} {fp : Nat → Prop} (h : w.ownsRow base T s v n xs) (ho : Only fp w w') (hf : ∀ g, v.ownBlock = some g → ¬ fp g) : w'.ownsRow base T s v n xs := by
  refine ⟨h.1, ?_⟩
  rcases h.2 with h0 | ⟨g, cap, cur, hv, hb, hg, hr⟩
  · exact .inl h0
  · exact .inr ⟨g, cap, cur, hv, hb, ho.blk (t := T) hg (hf g (by rw [hv]; rfl)), hr⟩
theorem info_map : (Tryz.prog.info? 241).map (fun i => (i.zero, i.size, i.bytes)) = some (some (.agg #[.slice none 0 0]), 1, 24) := by kernel_rfl
theorem eMap_one (n : Nat) : ∀ u ∈ List.replicate n eMap, u.oneCell' = true := fun u hu => by rw [List.eq_of_mem_replicate hu]; rfl
theorem rep_snoc (k : Nat) : List.replicate k eMap ++ [eMap] = List.replicate (k + 1) eMap := by rw [List.replicate_succ']

theorem rfits_any (n : Nat) (may were : Value) (emp wild bit : Bool) (w : World) :
    Calls Tryz.prog 180 #[.agg #[.int .i64 n, may, .bool emp, were, .bool wild, .bool bit]] w fun e w' => e = .returned (.bool (fitsN n)) ∧ Below w.heap.size w w' := by
  have hb : Below w.heap.size w (w.alloc (.cells #[.int .i64 n, may, .bool emp, were, .bool wild, .bool bit] 238)) := (Below.refl _ _).alloc (Nat.le_refl _) _
  by_cases h1 : 8 ≤ n
  · have q1 : (8 : Int) ≤ n := by omega
    by_cases h2 : n ≤ 400
    · have q2 : (n : Int) ≤ 400 := by omega
      go_enter Tryz.func180, Tryz.ntmps180
      go_wp2
      go_ret
      exact ⟨rBool (by simp [fitsN, h1, h2]), hb⟩
    · have q2 : ¬ (n : Int) ≤ 400 := by omega
      go_enter Tryz.func180, Tryz.ntmps180
      go_wp2
      go_ret
      exact ⟨rBool (by simp [fitsN, h2]), hb⟩
  · have q1 : ¬ (8 : Int) ≤ n := by omega
    go_enter Tryz.func180, Tryz.ntmps180
    go_wp2
    go_ret
    exact ⟨rBool (by simp [fitsN, h1]), hb⟩

set_option maxRecDepth 100000 in
set_option maxHeartbeats 1000000 in
theorem too_any (n kM kW : Nat) (may were : Value) (emp wild bit : Bool) (w : World) (hM : MapsAt w may kM) (hW : MapsAt w were kW) (hkM : kM ≤ 100000) (hkW : kW ≤ 100000) :
    Calls Tryz.prog 182 #[.agg #[.int .i64 n, may, .bool emp, were, .bool wild, .bool bit], .agg #[.slice none 0 0]] w fun e w' => ∃ may' were', e = .returned (.agg #[.int .i64 n, may', .bool emp, were', .bool wild, .bool bit]) ∧ MapsAt w' may' (kM + 1) ∧ MapsAt w' were' (kW + 1) ∧ Below w.heap.size w w' := by
  obtain ⟨i0, hi0, hz0, hz1, hz2⟩ := info_parts info_map
  obtain ⟨AM, cM, rfl, hrM⟩ := hM.form
  obtain ⟨AW, cW, rfl, hrW⟩ := hW.form
  have HI0 := hide hi0
  have HZ0 := hide hz0
  have HZ1 := hide hz1
  have HZ2 := hide hz2
  clear hi0 hz0 hz1 hz2 hM hW
  have L1 : kM + 1 ≤ maxLen := by unfold maxLen; omega
  have L2 : kW + 1 ≤ maxLen := by unfold maxLen; omega
  go_enter Tryz.func182, Tryz.ntmps182
  go_wp2_with (first
    | (at_builtin
       refine wpList_append_any _ rfl (.tmp 7) (.tmp 9) 236 rfl 0 241 i0 _ 1 24 Tryz.underlying236 HI0.out HZ0.out HZ1.out HZ2.out rfl (by decide) (.slice none 0 0) 0 [] rfl (World.ownsRow_nil _ _ _ _) w.heap.size AM kM cM (List.replicate kM eMap) rfl (((hrM.alloc (Nat.le_refl _) _).alloc (by simp) _).alloc (by simp; omega) _) (eMap_one _) (by omega) (by omega) (Nat.zero_le _) ?_
       intro v1 w1 hown1 hgr1 hat1
       have hb0 : Below w.heap.size w (((w.alloc (.cells #[.int .i64 n, .slice AM kM cM, .bool emp, .slice AW kW cW, .bool wild, .bool bit] 238)).alloc (.cells #[.slice none 0 0] 241)).alloc (.cells #[.int .i64 0, .slice none 0 0, .bool false, .slice none 0 0, .bool false, .bool false] 238)) := (((Below.refl _ _).alloc (Nat.le_refl _) _).alloc (by simp) _).alloc (by simp; omega) _
       have hb1 : Below w.heap.size w w1 := hb0.grown hgr1 (by simp; omega) (fun g e => by cases e)
       have hd1 : Blk w1 w.heap.size 238 #[.int .i64 n, .slice AM kM cM, .bool emp, .slice AW kW cW, .bool wild, .bool bit] := (((Blk.new w _ _).alloc _).alloc _).grown hgr1 (by simp [Value.ownBlock])
       have hm1 : Blk w1 (w.heap.size + 1) 241 #[.slice none 0 0] := ((Blk.new2 w _ _ _).alloc _).grown hgr1 (by simp [Value.ownBlock])
       have hr1 : Blk w1 (w.heap.size + 1 + 1) 238 #[.int .i64 0, .slice none 0 0, .bool false, .slice none 0 0, .bool false, .bool false] := by
         have := Blk.new2 (w.alloc (.cells #[.int .i64 n, .slice AM kM cM, .bool emp, .slice AW kW cW, .bool wild, .bool bit] 238)) (.cells #[.slice none 0 0] 241) 238 #[.int .i64 0, .slice none 0 0, .bool false, .slice none 0 0, .bool false, .bool false]
         rw [World.size_alloc] at this
         exact this.grown hgr1 (by simp [Value.ownBlock])
       rw [Nat.zero_add, List.nil_append] at hown1
       have hv1 : ∀ g, v1.ownBlock = some g → w.heap.size + 1 + 1 + 1 ≤ g := fun g e => by
         rcases hat1 with h | h
         · rw [h] at e; cases e
         · rw [h] at e; injection e with e; simp only [World.size_alloc] at e; omega
       obtain ⟨A1, c1, rfl, _⟩ := ownN_form hown1
       have m1 := cellOf hm1 0 rfl
       have HB1 := hide hb1
       have HD1 := hide hd1
       have HM1 := hide hm1
       have HR1 := hide hr1
       have HOWN1 := hide hown1
       have HV1 := hide hv1
       clear hown1 hgr1 hat1 hb0 hb1 hd1 hm1 hr1 hv1)
    | (at_builtin
       refine wpList_append_any _ rfl (.tmp 11) (.tmp 13) 236 rfl 0 241 i0 _ 1 24 Tryz.underlying236 HI0.out HZ0.out HZ1.out HZ2.out rfl (by decide) (.slice A1 kM c1) kM _ rfl (HOWN1.out.alloc _) (w1.heap.size + 1) (some ⟨w1.heap.size, 0, none⟩) 1 1 [eMap] rfl ⟨rfl, fun _ => ⟨_, rfl, Nat.lt_succ_self _, fun j u hu => by rw [Addr.add_lit]; exact (Blk.new w1 241 #[eMap]).range (cur := [eMap]) (o := 0) rfl j u hu⟩⟩ (eMap_one 1) (by omega) (by omega) (Nat.zero_le _) ?_
       intro v2 w2 hown2 hgr2 hat2
       rw [rep_snoc] at hown2
       have hz1 : w.heap.size + 1 + 1 < w1.heap.size := HR1.out.lt
       have hV : ∀ x, x < w.heap.size + 1 + 1 + 1 → some x ≠ (Value.slice A1 kM c1).ownBlock := fun x hx e => by have := HV1.out x e.symm; omega
       have hb2 : Below w.heap.size w w2 := (HB1.out.alloc (by omega) _).grown hgr2 (by simp only [World.size_alloc]; omega) (fun g e => by have := HV1.out g e; omega)
       have hd2 : Blk w2 w.heap.size 238 _ := (HD1.out.alloc _).grown hgr2 (hV _ (by omega))
       have hm2 := (HM1.out.alloc (.cells #[eMap] 241)).grown hgr2 (hV _ (by omega))
       have hr2 := (HR1.out.alloc (.cells #[eMap] 241)).grown hgr2 (hV _ (by omega))
       obtain ⟨A2, c2, rfl, _⟩ := ownN_form hown2
       have q1 := cellOf hd2 1 rfl
       have z1 : w2.frozen? ⟨w.heap.size, 1, none⟩ = false := hd2.frozen 1
       have q3 := cellOf hd2 3 rfl
       obtain ⟨W3, hW3⟩ : ∃ W3, W3 = w2.setCell ⟨w.heap.size, 1, none⟩ (.slice A2 (kM + 1) c2) := ⟨_, rfl⟩
       have ho3 : Only (· = w.heap.size) w2 W3 := by rw [hW3]; exact Only.set1 _ _ _ _
       have HB3 := hide (show Below w.heap.size w W3 from hb2.trans (ho3.to_below hb2.size (fun x hx => by omega)))
       have HD3 := hide (show Blk W3 w.heap.size 238 #[.int .i64 n, .slice A2 (kM + 1) c2, .bool emp, .slice AW kW cW, .bool wild, .bool bit] by rw [hW3]; exact hd2.set_ 1 _)
       have HM3 := hide (Blk.only hm2 ho3 (show ¬ w.heap.size + 1 = w.heap.size by omega))
       have HR3 := hide (Blk.only hr2 ho3 (show ¬ w.heap.size + 1 + 1 = w.heap.size by omega))
       have HOWN3 := hide (ownN_only hown2 ho3 (fun x cs hx e => by subst e; exact Blk.ne_ hx hd2 (by decide) rfl))
       have HW3 := hide hW3
       have HRW := hide (hrW.below (HB3.out))
       clear hown2 hgr2 hat2 hb2 hd2 hm2 hr2 ho3 hV)
    | (at_builtin
       rw [← HW3.out]
       refine wpList_append_any _ rfl (.tmp 16) (.tmp 18) 236 rfl 0 241 i0 _ 1 24 Tryz.underlying236 HI0.out HZ0.out HZ1.out HZ2.out rfl (by decide) (.slice none 0 0) 0 [] rfl (World.ownsRow_nil _ _ _ _) w.heap.size AW kW cW (List.replicate kW eMap) rfl HRW.out (eMap_one _) (by omega) (by omega) (Nat.zero_le _) ?_
       intro v4 w4 hown4 hgr4 hat4
       rw [Nat.zero_add, List.nil_append] at hown4
       have hz3 : w.heap.size + 1 + 1 < W3.heap.size := HR3.out.lt
       have hv4 : ∀ g, v4.ownBlock = some g → W3.heap.size ≤ g := fun g e => by
         rcases hat4 with h | h
         · rw [h] at e; cases e
         · rw [h] at e; injection e with e; omega
       obtain ⟨A4, c4, rfl, _⟩ := ownN_form hown4
       have hV0 : ∀ x : Nat, some x ≠ (Value.slice none 0 0).ownBlock := fun x e => by cases e
       have HB4 := hide (HB3.out.grown hgr4 (by omega) (fun g e => by cases e))
       have HD4 := hide (HD3.out.grown hgr4 (hV0 _))
       have HM4 := hide (HM3.out.grown hgr4 (hV0 _))
       have HR4 := hide (HR3.out.grown hgr4 (hV0 _))
       have HOWM4 := hide (ownN_only HOWN3.out (Only.grown (fp := fun _ => False) (Only.refl _ _) hgr4 (fun g e => by cases e)) (fun _ _ _ k => k))
       have HOWN4 := hide hown4
       have HV4 := hide hv4
       have m4 := cellOf HM4.out 0 rfl
       clear hown4 hgr4 hat4 hv4 hV0 q1 z1 q3 m1)
    | (at_builtin
       refine wpList_append_any _ rfl (.tmp 20) (.tmp 22) 236 rfl 0 241 i0 _ 1 24 Tryz.underlying236 HI0.out HZ0.out HZ1.out HZ2.out rfl (by decide) (.slice A4 kW c4) kW _ rfl (HOWN4.out.alloc _) (w4.heap.size + 1) (some ⟨w4.heap.size, 0, none⟩) 1 1 [eMap] rfl ⟨rfl, fun _ => ⟨_, rfl, Nat.lt_succ_self _, fun j u hu => by rw [Addr.add_lit]; exact (Blk.new w4 241 #[eMap]).range (cur := [eMap]) (o := 0) rfl j u hu⟩⟩ (eMap_one 1) (by omega) (by omega) (Nat.zero_le _) ?_
       intro v5 w5 hown5 hgr5 hat5
       rw [rep_snoc] at hown5
       have hz4 : w.heap.size + 1 + 1 < w4.heap.size := HR4.out.lt
       have hV : ∀ x, x < w.heap.size + 1 + 1 + 1 → some x ≠ (Value.slice A4 kW c4).ownBlock := fun x hx e => by have := HV4.out x e.symm; omega
       have hb5 : Below w.heap.size w w5 := (HB4.out.alloc (by omega) _).grown hgr5 (by simp only [World.size_alloc]; omega) (fun g e => by have := HV4.out g e; omega)
       have hd5 : Blk w5 w.heap.size 238 _ := (HD4.out.alloc _).grown hgr5 (hV _ (by omega))
       have hr5 := (HR4.out.alloc (.cells #[eMap] 241)).grown hgr5 (hV _ (by omega))
       have HOWM5 := hide (ownN_only' (HOWM4.out.alloc (.cells #[eMap] 241)) (Only.grown (fp := fun x => W3.heap.size ≤ x) (Only.refl _ _) hgr5 (fun g e => .inl (HV4.out g e))) (fun g e => by have := (ownN_lt HOWN3.out e).2; omega))
       obtain ⟨A5, c5, rfl, _⟩ := ownN_form hown5
       have q0 := cellOf hd5 0 rfl
       have q1 := cellOf hd5 1 rfl
       have q2 := cellOf hd5 2 rfl
       have q3 := cellOf hd5 3 rfl
       have q4 := cellOf hd5 4 rfl
       have q5 := cellOf hd5 5 rfl
       have z3 : w5.frozen? ⟨w.heap.size, 3, none⟩ = false := hd5.frozen 3
       have p0 := cellOf hr5 0 rfl
       have p1 := cellOf hr5 1 rfl
       have p2 := cellOf hr5 2 rfl
       have p3 := cellOf hr5 3 rfl
       have p4 := cellOf hr5 4 rfl
       have p5 := cellOf hr5 5 rfl
       have y : ∀ i, w5.frozen? ⟨w.heap.size + 1 + 1, i, none⟩ = false := fun i => hr5.frozen i
       have y0 := y 0
       have y1 := y 1
       have y2 := y 2
       have y3 := y 3
       have y4 := y 4
       have y5 := y 5
       have HB5 := hide hb5
       have HD5 := hide hd5
       have HR5 := hide hr5
       have HOWN5 := hide hown5
       have HGR5 := hide hgr5
       have HAT5 := hide hat5
       clear hown5 hgr5 hat5 hb5 hd5 hr5 hV y m4))
  have hx5 : w.heap.size + 1 + 1 < w5.heap.size := HR5.out.lt
  obtain ⟨W6, hW6⟩ : ∃ W6, W6 = w5.setCell ⟨w.heap.size, 3, none⟩ (.slice A5 (kW + 1) c5) := ⟨_, rfl⟩
  rw [← hW6]
  have ho6 : Only (· = w.heap.size) w5 W6 := by rw [hW6]; exact Only.set1 _ _ _ _
  have hr6 := Blk.only HR5.out ho6 (show ¬ w.heap.size + 1 + 1 = w.heap.size by omega)
  have hd6 : Blk W6 w.heap.size 238 #[.int .i64 n, .slice A2 (kM + 1) c2, .bool emp, .slice A5 (kW + 1) c5, .bool wild, .bool bit] := by rw [hW6]; exact HD5.out.set_ 3 _
  obtain ⟨W7, hW7⟩ : ∃ W7, W7 = (((((W6.setCell ⟨w.heap.size + 1 + 1, 0, none⟩ (.int .i64 n)).setCell ⟨w.heap.size + 1 + 1, 1, none⟩ (.slice A2 (kM + 1) c2)).setCell ⟨w.heap.size + 1 + 1, 2, none⟩ (.bool emp)).setCell ⟨w.heap.size + 1 + 1, 3, none⟩ (.slice A5 (kW + 1) c5)).setCell ⟨w.heap.size + 1 + 1, 4, none⟩ (.bool wild)).setCell ⟨w.heap.size + 1 + 1, 5, none⟩ (.bool bit) := ⟨_, rfl⟩
  rw [← hW7]
  have ho7 : Only (· = w.heap.size + 1 + 1) W6 W7 := by rw [hW7]; exact (((((Only.set1 _ _ _ _).set2 _ _).set2 _ _).set2 _ _).set2 _ _).set2 _ _
  have hr7 : Blk W7 (w.heap.size + 1 + 1) 238 #[.int .i64 n, .slice A2 (kM + 1) c2, .bool emp, .slice A5 (kW + 1) c5, .bool wild, .bool bit] := by
    rw [hW7]
    exact (((((hr6.set_ 0 _).set_ 1 _).set_ 2 _).set_ 3 _).set_ 4 _).set_ 5 _
  have r0 := cellOf hr7 0 rfl
  have r1 := cellOf hr7 1 rfl
  have r2 := cellOf hr7 2 rfl
  have r3 := cellOf hr7 3 rfl
  have r4 := cellOf hr7 4 rfl
  have r5 := cellOf hr7 5 rfl
  refine bodyPost_ret (v := .agg #[.int .i64 n, .slice A2 (kM + 1) c2, .bool emp, .slice A5 (kW + 1) c5, .bool wild, .bool bit]) (by simp [results, Tryz.results182, go_sem, r0, r1, r2, r3, r4, r5]) rfl ⟨.slice A2 (kM + 1) c2, .slice A5 (kW + 1) c5, rfl, ?_, ?_, ?_⟩
  · exact ownN_only (ownN_only HOWM5.out ho6 (fun x cs hx e => by subst e; exact Blk.ne_ hx HD5.out (by decide) rfl)) ho7 (fun x cs hx e => by subst e; exact Blk.ne_ hx hr6 (by decide) rfl)
  · exact ownN_only (ownN_only HOWN5.out ho6 (fun x cs hx e => by subst e; exact Blk.ne_ hx HD5.out (by decide) rfl)) ho7 (fun x cs hx e => by subst e; exact Blk.ne_ hx hr6 (by decide) rfl)
  · exact (HB5.out.trans (ho6.to_below HB5.out.size (fun x hx => by omega))).trans (ho7.to_below (Nat.le_trans HB5.out.size ho6.size) (fun x hx => by omega))

set_option maxRecDepth 100000 in
set_option maxHeartbeats 1000000 in
theorem only_any (n kM kW : Nat) (may were : Value) (emp wild bit : Bool) (w : World) (hM : MapsAt w may kM) (hW : MapsAt w were kW) (hkM : kM ≤ 100000) (hkW : kW ≤ 100000) :
    Calls Tryz.prog 181 #[.agg #[.int .i64 n, may, .bool emp, were, .bool wild, .bool bit], .agg #[.slice none 0 0]] w fun e w' => ∃ may' were', e = .returned (.agg #[.int .i64 n, may', .bool false, were', .bool wild, .bool bit]) ∧ MapsAt w' may' 1 ∧ MapsAt w' were' (kW + 1) ∧ Below w.heap.size w w' := by
  have hb0 : Below w.heap.size w (((w.alloc (.cells #[.int .i64 n, may, .bool emp, were, .bool wild, .bool bit] 238)).alloc (.cells #[.slice none 0 0] 241)).alloc (.cells #[.int .i64 0, .slice none 0 0, .bool false, .slice none 0 0, .bool false, .bool false] 238)) := (((Below.refl _ _).alloc (Nat.le_refl _) _).alloc (by simp) _).alloc (by simp; omega) _
  obtain ⟨AM, cM, rfl, hrM⟩ := hM.form
  obtain ⟨AW, cW, rfl, hrW⟩ := hW.form
  have HT := hide (too_any n kM kW _ _ emp wild bit _ (hM.below hb0) (hW.below hb0) hkM hkW)
  go_enter Tryz.func181, Tryz.ntmps181
  go_upto_region 4 with (first
    | (go_at_call 182; refine HT.out.mono ?_; rintro e w1 ⟨may', were', rfl, hM1, hW1, hb1⟩
       obtain ⟨A1, c1, rfl, _⟩ := hM1.form
       obtain ⟨A2, c2, rfl, _⟩ := hW1.form
       have m1 : w1.cell? ⟨w.heap.size + 1, 0, none⟩ = some (.slice none 0 0) := below_cell (cellOf ((Blk.new2 w (.cells #[.int .i64 n, .slice AM kM cM, .bool emp, .slice AW kW cW, .bool wild, .bool bit] 238) 241 #[.slice none 0 0]).alloc _) 0 rfl) hb1
       have m1' := fun o => cellA o m1))
  obtain ⟨W2, hW2⟩ : ∃ W2, W2 = (w1.alloc (.cells #[.int .i64 n, .slice (some ⟨w1.heap.size + 1, 0, none⟩) 1 1, .bool false, .slice A2 (kW + 1) c2, .bool wild, .bool bit] 238)).alloc (.cells #[.slice none 0 0] 241) := ⟨_, rfl⟩
  rw [← hW2]
  have hr0 : Blk (((w.alloc (.cells #[.int .i64 n, .slice AM kM cM, .bool emp, .slice AW kW cW, .bool wild, .bool bit] 238)).alloc (.cells #[.slice none 0 0] 241)).alloc (.cells #[.int .i64 0, .slice none 0 0, .bool false, .slice none 0 0, .bool false, .bool false] 238)) (w.heap.size + 1 + 1) 238 #[.int .i64 0, .slice none 0 0, .bool false, .slice none 0 0, .bool false, .bool false] := by
    have := Blk.new2 (w.alloc (.cells #[.int .i64 n, .slice AM kM cM, .bool emp, .slice AW kW cW, .bool wild, .bool bit] 238)) (.cells #[.slice none 0 0] 241) 238 #[.int .i64 0, .slice none 0 0, .bool false, .slice none 0 0, .bool false, .bool false]
    rwa [World.size_alloc] at this
  have hb2 : Below w1.heap.size w1 W2 := by rw [hW2]; exact ((Below.refl _ _).alloc (Nat.le_refl _) _).alloc (by simp) _
  have hr1 := hr0.below hb1 hr0.lt
  have hr2 := hr1.below hb2 hr1.lt
  have hx1 : w.heap.size + 1 + 1 < w1.heap.size := hr1.lt
  have hd2 : Blk W2 w1.heap.size 238 #[.int .i64 n, .slice (some ⟨w1.heap.size + 1, 0, none⟩) 1 1, .bool false, .slice A2 (kW + 1) c2, .bool wild, .bool bit] := by rw [hW2]; exact (Blk.new w1 _ _).alloc _
  have hrow : Blk W2 (w1.heap.size + 1) 241 #[eMap] := by rw [hW2]; exact Blk.new2 w1 _ _ _
  have hM2 : MapsAt W2 (.slice (some ⟨w1.heap.size + 1, 0, none⟩) 1 1) 1 := ⟨rfl, .inr ⟨_, 1, _, rfl, Nat.zero_le _, hrow, Nat.le_refl _, by unfold maxLen; omega, rfl, rfl⟩⟩
  have hW2' := hW1.below hb2
  have HW2 := hide hW2
  clear hW2 hr0 hr1 hM hW hrM hrW m1 m1' HT
  have q0 := cellOf hd2 0 rfl
  have q1 := cellOf hd2 1 rfl
  have q2 := cellOf hd2 2 rfl
  have q3 := cellOf hd2 3 rfl
  have q4 := cellOf hd2 4 rfl
  have q5 := cellOf hd2 5 rfl
  have p0 := cellOf hr2 0 rfl
  have p1 := cellOf hr2 1 rfl
  have p2 := cellOf hr2 2 rfl
  have p3 := cellOf hr2 3 rfl
  have p4 := cellOf hr2 4 rfl
  have p5 := cellOf hr2 5 rfl
  have y : ∀ i, W2.frozen? ⟨w.heap.size + 1 + 1, i, none⟩ = false := fun i => hr2.frozen i
  have y0 := y 0
  have y1 := y 1
  have y2 := y 2
  have y3 := y 3
  have y4 := y 4
  have y5 := y 5
  have HD2 := hide hd2
  have HR2 := hide hr2
  have HM2 := hide hM2
  have HWW := hide hW2'
  have HB1 := hide hb1
  have HB2 := hide hb2
  have HB0 := hide hb0
  clear hd2 hr2 hM2 hW2' hb1 hb2 hb0 y hrow hM1 hW1
  go_wp2
  obtain ⟨W7, hW7⟩ : ∃ W7, W7 = (((((W2.setCell ⟨w.heap.size + 1 + 1, 0, none⟩ (.int .i64 n)).setCell ⟨w.heap.size + 1 + 1, 1, none⟩ (.slice (some ⟨w1.heap.size + 1, 0, none⟩) 1 1)).setCell ⟨w.heap.size + 1 + 1, 2, none⟩ (.bool false)).setCell ⟨w.heap.size + 1 + 1, 3, none⟩ (.slice A2 (kW + 1) c2)).setCell ⟨w.heap.size + 1 + 1, 4, none⟩ (.bool wild)).setCell ⟨w.heap.size + 1 + 1, 5, none⟩ (.bool bit) := ⟨_, rfl⟩
  rw [← hW7]
  have ho7 : Only (· = w.heap.size + 1 + 1) W2 W7 := by rw [hW7]; exact (((((Only.set1 _ _ _ _).set2 _ _).set2 _ _).set2 _ _).set2 _ _).set2 _ _
  have hr7 : Blk W7 (w.heap.size + 1 + 1) 238 #[.int .i64 n, .slice (some ⟨w1.heap.size + 1, 0, none⟩) 1 1, .bool false, .slice A2 (kW + 1) c2, .bool wild, .bool bit] := by
    rw [hW7]
    exact (((((HR2.out.set_ 0 _).set_ 1 _).set_ 2 _).set_ 3 _).set_ 4 _).set_ 5 _
  have r0 := cellOf hr7 0 rfl
  have r1 := cellOf hr7 1 rfl
  have r2 := cellOf hr7 2 rfl
  have r3 := cellOf hr7 3 rfl
  have r4 := cellOf hr7 4 rfl
  have r5 := cellOf hr7 5 rfl
  refine bodyPost_ret (v := .agg #[.int .i64 n, .slice (some ⟨w1.heap.size + 1, 0, none⟩) 1 1, .bool false, .slice A2 (kW + 1) c2, .bool wild, .bool bit]) (by simp [results, Tryz.results181, go_sem, r0, r1, r2, r3, r4, r5]) rfl ⟨.slice (some ⟨w1.heap.size + 1, 0, none⟩) 1 1, .slice A2 (kW + 1) c2, rfl, ?_, ?_, ?_⟩
  · exact HM2.out.only ho7 (fun x cs hx e => by subst e; exact Blk.ne_ hx HR2.out (by decide) rfl)
  · exact HWW.out.only ho7 (fun x cs hx e => by subst e; exact Blk.ne_ hx HR2.out (by decide) rfl)
  · have h1 : Below w.heap.size w W2 := (HB0.out.trans (HB1.out.mono (by simp; omega))).trans (HB2.out.mono (by omega))
    exact h1.trans (ho7.to_below h1.size (fun x hx => by omega))
end Go.Proofs.YtemondlgcmpbbaaGreatDoor
