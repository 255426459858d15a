/- Walks: shadowlaw's found, on a store that is empty. -/
import Derived.Test.YtemondlgcmpbbaaGreatDoorLc
namespace Go.Proofs.YtemondlgcmpbbaaGreatDoor
open Go.RowKit

def last9 : ByteArray := ⟨#[255, 255, 255, 255, 255, 255, 255, 255, 255]⟩

set_option maxRecDepth 100000 in
set_option maxHeartbeats 4000000 in
theorem found_any (K p g base kW xb dk rd : Nat) (s : LdS) (m : Nums) (bytes : List UInt8) (w : World) (hl : LdAt w p s) (ho : LdOk w s 1 kW) (hd : Dk w K s.db g base s.n (.slice none 0 0) m bytes [])
    (hx : DbAt w xb (DbS.fresh dk rd)) (hr : RdAt w rd []) (hkW2 : kW < 90000) :
    Calls Tryz.prog 183 #[.pointer (some ⟨p, 0, none⟩), .pointer (some ⟨xb, 0, none⟩)] w fun e w' => ∃ may' were', e = .returned (.bool true) ∧ LdAt w' p { s with may := may', were := were', x := .pointer (some ⟨xb, 0, none⟩), c := .slice none 0 0, commits := 0 } ∧
      LdOk w' { s with may := may', were := were', x := .pointer (some ⟨xb, 0, none⟩), c := .slice none 0 0, commits := 0 } 1 (kW + 1) ∧ DbAt w' xb (DbS.fresh dk rd) ∧ RdAt w' rd [] ∧ Only (fun y => y = p ∨ y = xb ∨ y = rd) w w' := by
  obtain ⟨AM, cM, AW, cW, eM, eW⟩ := LdAt.form (_p := p) ho
  obtain ⟨db, n, may, emp, were, wild, bit, x, c, commits, poi, ts, lists, want⟩ := s
  obtain ⟨hmay, hwere, e1, e2, e3, hkM, hkW⟩ := ho
  simp only at eM eW hmay hwere e1 e2 e3 hd
  subst eM eW e1 e2 e3
  have hpx : p ≠ xb := Blk.ne_ hl hx (by decide)
  have hprd : rd ≠ p := hr.ne_blk hl
  have hbx : db ≠ xb := Blk.ne_ hd.at_ hx (by decide)
  have hbrd : rd ≠ db := hr.ne_blk hd.at_
  have hxrd : rd ≠ xb := hr.ne_blk hx
  have hl' : LdAt w p ⟨db, n, .slice AM 1 cM, false, .slice AW kW cW, false, false, x, c, commits, poi, ts, lists, want⟩ := hl
  obtain ⟨k0, _⟩ := ld_cells hl'
  have HT := hide (told_any db _ _ m w hd.at_)
  have HBG := hide (begin_okR xb (DbS.fresh dk rd) [] w hx rfl hr (fun k hk => by cases hk) (by decide))
  have HL := hide hl'
  have HD := hide hd.at_
  have HM := hide hmay
  have HW := hide hwere
  have HPL := hide hl.lt
  have HRL := hide hr.lt
  have HXL := hide hx.lt
  have HF0 := hide (show ∀ y cs, Blk w y 241 cs → ¬ (y = xb ∨ y = rd) from fun y cs hy e => by
    rcases e with e | e
    · subst e; exact Blk.ne_ hy hx (by decide) rfl
    · subst e; exact hr.ne_blk hy rfl)
  clear hl hl' hd hx hr hmay hwere
  go_enter Tryz.func183, Tryz.ntmps183
  go_upto_region 20 with (first
    | (go_at_call 178; refine HT.out.mono ?_; rintro e w' ⟨rfl, rfl⟩)
    | (go_at_call 22; go_loud (
       refine HBG.out.mono ?_; rintro e w1 ⟨t, rfl, hT1, hX1, hR1, hzt, ho1⟩
       have hl1 := HL.out.only ho1 (fun e => by rcases e with e | e; exact hpx e; exact hprd e.symm)
       have HS := hide (scan_nil t xb _ _ ⟨#[]⟩ last9 1048576 (by decide) w1 hT1 hX1 rfl rfl rfl)
       have HT1 := hide hT1
       have HX1 := hide hX1
       have HR1 := hide hR1
       have HO1 := hide ho1
       have HM1 := hide (HM.out.only ho1 HF0.out)
       have HW1 := hide (HW.out.only ho1 HF0.out)
       have HL1 := hide hl1
       unfold last9 at HS
       clear hT1 hX1 hR1 ho1 hl1 k0))
    | (go_at_call 30; refine (told_nil _).mono ?_; rintro e w' ⟨rfl, rfl⟩)
    | (go_at_call 179; refine (num_any _ _).mono ?_; rintro e w' ⟨rfl, rfl⟩)
    | (go_at_call 64; go_loud (
       refine HS.out.mono ?_; rintro e w2 ⟨rfl, hb2⟩
       have HB2 := hide hb2
       have hT2 := Blk.below HT1.out hb2 HT1.out.lt
       have hX2 := Blk.below HX1.out hb2 HX1.out.lt
       have hR2 := HR1.out.only (fp := fun _ => False) (Only.of_below hb2) id
       have HA := hide (abort_any t xb _ _ _ w2 hT2 hX2 rfl hR2 (fun k hk => by rw [List.nil_append] at hk; rw [List.mem_singleton.1 hk]; exact ⟨_, hT2⟩) rfl)
       have HF2 := hide (show ∀ y cs, Blk w2 y 241 cs → ¬ (y = t ∨ y = xb ∨ y = rd) from fun y cs hy e => by
         rcases e with e | e | e
         · subst e; exact Blk.ne_ hy hT2 (by decide) rfl
         · subst e; exact Blk.ne_ hy hX2 (by decide) rfl
         · subst e; exact hR2.ne_blk hy rfl)
       have HM2 := hide (HM1.out.below hb2)
       have HW2 := hide (HW1.out.below hb2)
       clear hb2 hT2 hX2 hR2))
    | (go_at_call 27; go_loud (
       refine HA.out.mono ?_; rintro e w3 ⟨rfl, hT3, hX3, hR3, ho3⟩
       have hl3 := Blk.only (Blk.below HL1.out HB2.out HL1.out.lt) ho3 (fun e => by have := HPL.out; rcases e with e | e | e; omega; exact hpx e; exact hprd e.symm)
       obtain ⟨_, k1, k2, k3, k4, k5, k6⟩ := ld_cells (show LdAt w3 p ⟨db, n, .slice AM 1 cM, false, .slice AW kW cW, false, false, x, c, commits, poi, ts, lists, want⟩ from hl3)
       have HM3 := hide (HM2.out.only ho3 HF2.out)
       have HW3 := hide (HW2.out.only ho3 HF2.out)
       have HX3 := hide hX3
       have HR3 := hide hR3
       have HO3 := hide ho3
       have HL3 := hide hl3
       have HH := hide (has_one n _ (.slice AW kW cW) false false false w3 HM3.out)
       clear hT3 hX3 hR3 ho3 hl3))
    | (go_at_call 200; refine (pairs_nil _).mono ?_; rintro e w' ⟨rfl, rfl⟩)
    | (go_at_call 201; go_loud (
       refine HH.out.mono ?_; rintro e w4 ⟨rfl, hb4⟩
       have hl4 := Blk.below HL3.out hb4 HL3.out.lt
       obtain ⟨_, q1, q2, q3, q4, q5, q6⟩ := ld_cells (show LdAt w4 p ⟨db, n, .slice AM 1 cM, false, .slice AW kW cW, false, false, x, c, commits, poi, ts, lists, want⟩ from hl4)
       obtain ⟨_, q8, q9, _⟩ := ld_more (show LdAt w4 p ⟨db, n, .slice AM 1 cM, false, .slice AW kW cW, false, false, x, c, commits, poi, ts, lists, want⟩ from hl4)
       have z8 : w4.frozen? ⟨p, 8, none⟩ = false := hl4.frozen 8
       have HL4 := hide hl4
       have HB4 := hide hb4
       clear hb4 hl4 k1 k2 k3 k4 k5 k6)))
  obtain ⟨w8, hw8⟩ : ∃ w8, w8 = w4.setCell ⟨p, 8, none⟩ (.slice none 0 0) := ⟨_, rfl⟩
  rw [← hw8]
  have ho8 : Only (· = p) w4 w8 := by rw [hw8]; exact Only.set1 _ _ _ _
  have hl8 : Blk w8 p 245 #[.pointer (some ⟨db, 0, none⟩), .int .i64 n, .slice AM 1 cM, .bool false, .slice AW kW cW, .bool false, .bool false, x, .slice none 0 0, .int .i64 commits, .bool poi, ts, lists, want] := by
    rw [hw8]
    have : Blk w4 p 245 #[.pointer (some ⟨db, 0, none⟩), .int .i64 n, .slice AM 1 cM, .bool false, .slice AW kW cW, .bool false, .bool false, x, c, .int .i64 commits, .bool poi, ts, lists, want] := HL4.out
    have := this.set_ 8 (.slice none 0 0)
    simp only [List.setIfInBounds_toArray, List.set_cons_zero, List.set_cons_succ] at this
    exact this
  have hfp8 : ∀ y cs, Blk w4 y 241 cs → ¬ y = p := fun y cs hy e => by subst e; exact Blk.ne_ hy HL4.out (by decide) rfl
  have HO8 := hide (only_any n 1 kW _ _ false false false w8.drew ((HM3.out.below HB4.out).only ho8.drew hfp8) ((HW3.out.below HB4.out).only ho8.drew hfp8) (by omega) (by omega))
  have HL8 := hide hl8
  have HO48 := hide ho8
  obtain ⟨_, r1, r2, r3, r4, r5, r6⟩ := ld_cells (show LdAt w8 p ⟨db, n, .slice AM 1 cM, false, .slice AW kW cW, false, false, x, .slice none 0 0, commits, poi, ts, lists, want⟩ from hl8)
  obtain ⟨_, r8, _⟩ := ld_more (show LdAt w8 p ⟨db, n, .slice AM 1 cM, false, .slice AW kW cW, false, false, x, .slice none 0 0, commits, poi, ts, lists, want⟩ from hl8)
  clear hl8 ho8 hfp8 hw8 q1 q2 q3 q4 q5 q6 q8 q9 z8
  refine wp_region_held_drew (S := fun _ => True) (by kernel_rfl) trivial ?_
  intro _
  refine wpAnyH_takeD (i := 0) (v := (.pointer (some ⟨p, 0, none⟩))) (some 94) rfl rfl (by kernel_rfl) (by kernel_rfl) (by kernel_rfl) (fun _ _ _ h => h) (Or.inl ⟨rfl, fun w' hSw => by go_simp⟩) trivial ?_
  simp only [Act.put, List.setIfInBounds_toArray, List.set_cons_zero, List.set_cons_succ]
  refine wpAnyH_takeD (i := 1) (v := (.pointer (some ⟨p, 0, none⟩))) (some 95) rfl rfl (by kernel_rfl) (by kernel_rfl) (by kernel_rfl) (fun _ _ _ h => h) (Or.inl ⟨rfl, fun w' hSw => by go_simp⟩) trivial ?_
  simp only [Act.put, List.setIfInBounds_toArray, List.set_cons_zero, List.set_cons_succ]
  refine wpAnyH_takeD (i := 2) (v := (.pointer (some ⟨p, 0, none⟩))) (some 96) rfl rfl (by kernel_rfl) (by kernel_rfl) (by kernel_rfl) (fun _ _ _ h => h) (Or.inl ⟨rfl, fun w' hSw => by go_simp⟩) trivial ?_
  simp only [Act.put, List.setIfInBounds_toArray, List.set_cons_zero, List.set_cons_succ]
  refine wpAnyH_takeD (i := 3) (v := (.pointer (some ⟨p, 1, none⟩))) (some 97) rfl rfl (by kernel_rfl) (by kernel_rfl) (by kernel_rfl) (fun _ _ _ h => h) (Or.inl ⟨rfl, fun w' hSw => by go_simp⟩) trivial ?_
  simp only [Act.put, List.setIfInBounds_toArray, List.set_cons_zero, List.set_cons_succ]
  refine wpAnyH_takeD (i := 5) (v := (.pointer (some ⟨p, 0, none⟩))) (some 99) rfl rfl (by kernel_rfl) (by kernel_rfl) (by kernel_rfl) (fun _ _ _ h => h) (Or.inl ⟨rfl, fun w' hSw => by go_simp⟩) trivial ?_
  simp only [Act.put, List.setIfInBounds_toArray, List.set_cons_zero, List.set_cons_succ]
  refine wpAnyH_takeD (i := 6) (v := (.pointer (some ⟨p, 0, none⟩))) (some 100) rfl rfl (by kernel_rfl) (by kernel_rfl) (by kernel_rfl) (fun _ _ _ h => h) (Or.inl ⟨rfl, fun w' hSw => by go_simp⟩) trivial ?_
  simp only [Act.put, List.setIfInBounds_toArray, List.set_cons_zero, List.set_cons_succ]
  refine wpAnyH_takeD (i := 7) (v := (.pointer (some ⟨p, 8, none⟩))) (some 101) rfl rfl (by kernel_rfl) (by kernel_rfl) (by kernel_rfl) (fun _ _ _ h => h) (Or.inl ⟨rfl, fun w' hSw => by go_simp⟩) trivial ?_
  simp only [Act.put, List.setIfInBounds_toArray, List.set_cons_zero, List.set_cons_succ]
  refine wpAnyH_two (i := 4) (j := 8) (vi := (.agg #[.int .i64 n, .slice AM 1 cM, .bool false, .slice AW kW cW, .bool false, .bool false])) (vj := (.agg #[.slice none 0 0])) (w' := w8.drew) (some 98) (some 102) (by kernel_rfl) (by kernel_rfl) (by kernel_rfl) (by kernel_rfl) rfl rfl rfl rfl rfl rfl rfl rfl (by go_simp) (by go_simp) (by go_simp) (by go_simp) trivial trivial rfl ?_
  simp only [Act.put, List.setIfInBounds_toArray, List.set_cons_zero, List.set_cons_succ]
  refine wpAnyH_callE (i := 9) (f := 181) (some 103) (by kernel_rfl) rfl rfl rfl (by first | (go_simp; done) | (go_simp; rfl)) (HO8.out) ?_
  rintro _ w9 ⟨may', were', rfl, hM9, hW9, hb9⟩
  refine ⟨(.agg #[.int .i64 n, may', .bool false, were', .bool false, .bool false]), rfl, trivial, ?_⟩
  simp only [Act.put, List.setIfInBounds_toArray, List.set_cons_zero, List.set_cons_succ]
  refine wpAnyH_takeD (i := 10) (v := (.pointer (some ⟨p, 0, none⟩))) (some 104) rfl rfl (by kernel_rfl) (by kernel_rfl) (by kernel_rfl) (fun _ _ _ h => h) (Or.inl ⟨rfl, fun w' hSw => by go_simp⟩) trivial ?_
  simp only [Act.put, List.setIfInBounds_toArray, List.set_cons_zero, List.set_cons_succ]
  refine wpAnyH_takeD (i := 11) (v := (.pointer (some ⟨p, 1, none⟩))) (some 105) rfl rfl (by kernel_rfl) (by kernel_rfl) (by kernel_rfl) (fun _ _ _ h => h) (Or.inl ⟨rfl, fun w' hSw => by go_simp⟩) trivial ?_
  simp only [Act.put, List.setIfInBounds_toArray, List.set_cons_zero, List.set_cons_succ]
  refine wpAnyH_one (i := 12) (by kernel_rfl) rfl rfl ?_
  have hl9 : Blk w9 p 245 #[.pointer (some ⟨db, 0, none⟩), .int .i64 n, .slice AM 1 cM, .bool false, .slice AW kW cW, .bool false, .bool false, x, .slice none 0 0, .int .i64 commits, .bool poi, ts, lists, want] := HL8.out.drew.below hb9 HL8.out.lt
  obtain ⟨A4, c4, rfl, _⟩ := hM9.form
  obtain ⟨A5, c5, rfl, _⟩ := hW9.form
  obtain ⟨_, u1, u2, u3, u4, u5, u6⟩ := ld_cells (show LdAt w9 p ⟨db, n, .slice AM 1 cM, false, .slice AW kW cW, false, false, x, .slice none 0 0, commits, poi, ts, lists, want⟩ from hl9)
  obtain ⟨z1, z2, z3, z4, z5, z6⟩ := ld_thaw (show LdAt w9 p ⟨db, n, .slice AM 1 cM, false, .slice AW kW cW, false, false, x, .slice none 0 0, commits, poi, ts, lists, want⟩ from hl9)
  go_simp
  refine wpAnyH_done (by kernel_rfl) ?_ _
  obtain ⟨W10, hW10⟩ : ∃ W10, W10 = (((((w9.setCell ⟨p, 1, none⟩ (.int .i64 n)).setCell ⟨p, 2, none⟩ (.slice A4 1 c4)).setCell ⟨p, 3, none⟩ (.bool false)).setCell ⟨p, 4, none⟩ (.slice A5 (kW + 1) c5)).setCell ⟨p, 5, none⟩ (.bool false)).setCell ⟨p, 6, none⟩ (.bool false) := ⟨_, rfl⟩
  rw [← hW10]
  have ho10 : Only (· = p) w9 W10 := by rw [hW10]; exact (((((Only.set1 _ _ _ _).set2 _ _).set2 _ _).set2 _ _).set2 _ _).set2 _ _
  have hl10 : Blk W10 p 245 #[.pointer (some ⟨db, 0, none⟩), .int .i64 n, .slice A4 1 c4, .bool false, .slice A5 (kW + 1) c5, .bool false, .bool false, x, .slice none 0 0, .int .i64 commits, .bool poi, ts, lists, want] := by
    rw [hW10]
    have := (((((hl9.set_ 1 (.int .i64 n)).set_ 2 (.slice A4 1 c4)).set_ 3 (.bool false)).set_ 4 (.slice A5 (kW + 1) c5)).set_ 5 (.bool false)).set_ 6 (.bool false)
    simp only [List.setIfInBounds_toArray, List.set_cons_zero, List.set_cons_succ] at this
    exact this
  have HL9 := hide hl9
  have HL10 := hide hl10
  have HO10 := hide ho10
  have HM9 := hide hM9
  have HW9 := hide hW9
  have HB9 := hide hb9
  have g7 : W10.cell? ⟨p, 7, none⟩ = some x := cellOf hl10 7 rfl
  have g9 : W10.cell? ⟨p, 9, none⟩ = some (.int .i64 commits) := cellOf hl10 9 rfl
  have y7 : W10.frozen? ⟨p, 7, none⟩ = false := hl10.frozen 7
  have y9 : W10.frozen? ⟨p, 9, none⟩ = false := hl10.frozen 9
  clear hl9 hl10 ho10 hW10 hM9 hW9 hb9 u1 u2 u3 u4 u5 u6 z1 z2 z3 z4 z5 z6 r1 r2 r3 r4 r5 r6 r8
  go_wp2
  obtain ⟨W11, hW11⟩ : ∃ W11, W11 = (W10.setCell ⟨p, 7, none⟩ (.pointer (some ⟨xb, 0, none⟩))).setCell ⟨p, 9, none⟩ (.int .i64 0) := ⟨_, rfl⟩
  rw [← hW11]
  have ho11 : Only (· = p) w9 W11 := by rw [hW11]; exact (HO10.out.set2 _ _).set2 _ _
  have hl11 : LdAt W11 p ⟨db, n, .slice A4 1 c4, false, .slice A5 (kW + 1) c5, false, false, .pointer (some ⟨xb, 0, none⟩), .slice none 0 0, 0, poi, ts, lists, want⟩ := by
    rw [hW11]
    have := (HL10.out.set_ 7 (.pointer (some ⟨xb, 0, none⟩))).set_ 9 (.int .i64 0)
    simp only [List.setIfInBounds_toArray, List.set_cons_zero, List.set_cons_succ] at this
    exact this
  have hfp : ∀ y cs, Blk w9 y 241 cs → ¬ y = p := fun y cs hy e => by subst e; exact Blk.ne_ hy HL9.out (by decide) rfl
  have hxl := HXL.out
  have hrl := HRL.out
  have hpl := HPL.out
  have hX9 : DbAt w9 xb (DbS.fresh dk rd) := ((((Blk.below HX3.out HB4.out HX3.out.lt)).only HO48.out (fun e => hpx e.symm)).drew).below HB9.out (by have := (Blk.below HX3.out HB4.out HX3.out.lt).only HO48.out (fun e => hpx e.symm); exact this.lt)
  have hR9 : RdAt w9 rd [] := by
    have h3 : RdAt w3 rd [] := by
      have := HR3.out
      rw [List.nil_append, List.erase_cons_head] at this
      exact this
    exact ((h3.only (fp := fun _ => False) (Only.of_below HB4.out) id).only HO48.out hprd).only (fp := fun _ => False) ((Only.refl _ _).drew.below HB9.out) id
  go_ret
  refine ⟨.slice A4 1 c4, .slice A5 (kW + 1) c5, rfl, hl11, ⟨HM9.out.only ho11 hfp, HW9.out.only ho11 hfp, rfl, rfl, rfl, by omega, by omega⟩, Blk.only hX9 ho11 (fun e => hpx e.symm), hR9.only ho11 hprd, ?_⟩
  have h1 : Only (fun y => y = p ∨ y = xb ∨ y = rd) w w2 := (HO1.out.mono fun _ _ h => .inr h).below HB2.out
  have h3 : Only (fun y => y = p ∨ y = xb ∨ y = rd) w w3 := h1.trans' HO3.out (fun y hy e => by rcases e with e | e | e; omega; exact .inr (.inl e); exact .inr (.inr e))
  have h8 : Only (fun y => y = p ∨ y = xb ∨ y = rd) w w8 := (h3.below HB4.out).trans (HO48.out.mono fun _ _ h => .inl h)
  exact ((h8.drew.below HB9.out)).trans (ho11.mono fun _ _ h => .inl h)
end Go.Proofs.YtemondlgcmpbbaaGreatDoor
