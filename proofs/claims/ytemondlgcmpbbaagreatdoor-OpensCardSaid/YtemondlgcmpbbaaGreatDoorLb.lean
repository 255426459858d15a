/- Walks: shadowlaw's formatted. -/
import Derived.Test.YtemondlgcmpbbaaGreatDoorLa
namespace Go.Proofs.YtemondlgcmpbbaaGreatDoor
open Go.RowKit

theorem LdAt.form {w : World} {_p : Nat} {s : LdS} {kM kW : Nat} (h : LdOk w s kM kW) : ∃ AM cM AW cW, s.may = .slice AM kM cM ∧ s.were = .slice AW kW cW := by
  obtain ⟨AM, cM, h1, _⟩ := h.may.form
  obtain ⟨AW, cW, h2, _⟩ := h.were.form
  exact ⟨AM, cM, AW, cW, h1, h2⟩
theorem disk_dfp {w : World} {K b g base n : Nat} {cv : Value} {m : Nums} {bytes : List UInt8} {cache : List (Nat × List UInt8)} (h : Dk w K b g base n cv m bytes cache) {p : Nat} {T : TypeId} {cs : Array Value} (hp : Blk w p T cs) (h1 : T ≠ 103) (h2 : T ≠ 111) (h3 : T ≠ 113) : ¬ dfp b g cv p := by
  rintro (rfl | rfl | e)
  · exact Blk.ne_ hp h.at_ h1 rfl
  · exact Blk.ne_ hp h.blk h2 rfl
  · exact own_blk_ne h.own hp h3.symm e.symm

set_option maxRecDepth 100000 in
set_option maxHeartbeats 2000000 in
theorem formatted_fit (K p g base kM kW : Nat) (s : LdS) (m : Nums) (bytes : List UInt8) (w : World) (hl : LdAt w p s) (ho : LdOk w s kM kW) (hd : Dk w K s.db g base s.n (.slice none 0 0) m bytes []) (hc : m.calm) (hf : fitsN s.n = true) (hK : K + 5 < edge) (hkW2 : kW < 90000) :
    Calls Tryz.prog 148 #[.pointer (some ⟨p, 0, none⟩)] w fun e w' => ∃ may' were', e = .returned (.bool true) ∧ LdAt w' p { s.closed with may := may', were := were' } ∧ LdOk w' { s.closed with may := may', were := were' } 1 (kW + 1) ∧
      Dk w' (K + 5) s.db g base s.n (.slice none 0 0) (ticks m 2).tick.wrote.tick (formatB bytes [] (nextHead (headsN (dread bytes [])))) [] ∧ Only (fun y => y = p ∨ y = s.db ∨ y = g) w w' := by
  obtain ⟨AM, cM, AW, cW, eM, eW⟩ := LdAt.form (_p := p) ho
  obtain ⟨db, n, may, emp, were, wild, bit, x, c, commits, poi, ts, lists, want⟩ := s
  obtain ⟨hmay, hwere, e1, e2, e3, hkM, hkW⟩ := ho
  simp only at eM eW hmay hwere e1 e2 e3 hd hf
  subst eM eW e1 e2 e3
  have hpd : ¬ dfp db g (.slice none 0 0) p := disk_dfp hd hl (by decide) (by decide) (by decide)
  have HPD := hide hpd
  have HC := hide (close_any p _ w hl)
  have HL0 := hide hl
  have HD := hide hd
  have HM := hide hmay
  have HW := hide hwere
  have HCA := hide hc
  have HF := hide hf
  clear hl hd hmay hwere hc hpd hf
  go_enter Tryz.func148, Tryz.ntmps148
  go_wp2_with (first
    | (go_at_call 177; go_loud (
       refine HC.out.mono ?_; rintro e w1 ⟨rfl, hl1, ho1⟩
       have hd1 := HD.out.only ho1 (fun y hy e => HPD.out (e ▸ hy))
       have hl1 : LdAt w1 p ⟨db, n, .slice AM kM cM, false, .slice AW kW cW, false, false, .pointer none, c, commits, false, .slice none 0 0, lists, want⟩ := hl1
       obtain ⟨k0, _⟩ := ld_cells hl1
       have HT := hide (told_any db _ _ m w1 hd1.at_)
       have HP := hide (sformat_any K db g base n (.slice none 0 0) m bytes [] w1 hd1 HCA.out hK HF.out)
       have HL1 := hide hl1
       have HO1 := hide ho1
       have HM1 := hide (HM.out.only ho1 (fun y cs hy e => by subst e; exact Blk.ne_ hy HL0.out (by decide) rfl))
       have HW1 := hide (HW.out.only ho1 (fun y cs hy e => by subst e; exact Blk.ne_ hy HL0.out (by decide) rfl))
       have HD1 := hide hd1
       clear hl1 ho1 hd1))
    | (go_at_call 178; refine HT.out.mono ?_; rintro e w' ⟨rfl, rfl⟩)
    | (go_at_call 50; refine HP.out.mono ?_; rintro e w2 ⟨rfl, hd2, ho2⟩
       have hl2 := Blk.only HL1.out ho2 (fun e => HPD.out (by rcases e with e | e; exact .inl e; exact .inr (.inl e)))
       obtain ⟨_, k1, k2, k3, k4, k5, k6⟩ := ld_cells hl2
       have HL2 := hide hl2
       have HD2 := hide hd2
       have HO2 := hide ho2
       have hfp : ∀ y cs, Blk w1 y 241 cs → ¬ (y = db ∨ y = g) := fun y cs hy e => by
         rcases e with e | e
         · subst e; exact Blk.ne_ hy HD1.out.at_ (by decide) rfl
         · subst e; exact Blk.ne_ hy HD1.out.blk (by decide) rfl
       have HM2 := hide (HM1.out.only ho2 hfp)
       have HW2 := hide (HW1.out.only ho2 hfp)
       clear hl2 hd2 ho2 k0 hfp)
    | (go_at_call 30; refine (told_nil _).mono ?_; rintro e w' ⟨rfl, rfl⟩)
    | (go_at_call 179; refine (num_any _ _).mono ?_; rintro e w' ⟨rfl, rfl⟩)
    | (go_at_call 180; refine (rfits_any _ _ _ _ _ _ _).mono ?_; rintro e w3 ⟨rfl, hb3⟩
       rw [HF.out]
       obtain ⟨_, k1', k2', k3', k4', k5', k6'⟩ := ld_cells (Blk.below HL2.out hb3 HL2.out.lt)
       have HO := hide (only_any n kM kW _ _ false false false w3 (HM2.out.below hb3) (HW2.out.below hb3) (by omega) (by omega))
       have HB3 := hide hb3
       clear hb3 k1 k2 k3 k4 k5 k6)
    | (go_at_call 181; refine HO.out.mono ?_; rintro e w4 ⟨may', were', rfl, hM4, hW4, hb4⟩
       have hl4 : Blk w4 p 245 #[.pointer (some ⟨db, 0, none⟩), .int .i64 n, .slice AM kM cM, .bool false, .slice AW kW cW, .bool false, .bool false, .pointer none, c, .int .i64 commits, .bool false, .slice none 0 0, lists, want] := Blk.below (Blk.below HL2.out HB3.out HL2.out.lt) hb4 (Nat.lt_of_lt_of_le HL2.out.lt HB3.out.size)
       obtain ⟨A4, c4, rfl, _⟩ := hM4.form
       obtain ⟨A5, c5, rfl, _⟩ := hW4.form
       obtain ⟨_, q1, q2, q3, q4, q5, q6⟩ := ld_cells (show LdAt w4 p ⟨db, n, .slice AM kM cM, false, .slice AW kW cW, false, false, .pointer none, c, commits, false, .slice none 0 0, lists, want⟩ from hl4)
       obtain ⟨z1, z2, z3, z4, z5, z6⟩ := ld_thaw (show LdAt w4 p ⟨db, n, .slice AM kM cM, false, .slice AW kW cW, false, false, .pointer none, c, commits, false, .slice none 0 0, lists, want⟩ from hl4)
       have HL4 := hide hl4
       have HM4 := hide hM4
       have HW4 := hide hW4
       have HB4 := hide hb4
       clear hl4 hM4 hW4 hb4 k1' k2' k3' k4' k5' k6'))
  obtain ⟨W7, hW7⟩ : ∃ W7, W7 = (((((((w4.setCell ⟨p, 1, none⟩ (.int .i64 n)).setCell ⟨p, 2, none⟩ (.slice A4 1 c4)).setCell ⟨p, 3, none⟩ (.bool false)).setCell ⟨p, 4, none⟩ (.slice A5 (kW + 1) c5)).setCell ⟨p, 5, none⟩ (.bool false)).setCell ⟨p, 6, none⟩ (.bool false)).setCell ⟨p, 5, none⟩ (.bool false)).setCell ⟨p, 6, none⟩ (.bool false) := ⟨_, rfl⟩
  rw [← hW7]
  have ho7 : Only (· = p) w4 W7 := by rw [hW7]; exact (((((((Only.set1 _ _ _ _).set2 _ _).set2 _ _).set2 _ _).set2 _ _).set2 _ _).set2 _ _).set2 _ _
  have hl7 : LdAt W7 p ⟨db, n, .slice A4 1 c4, false, .slice A5 (kW + 1) c5, false, false, .pointer none, c, commits, false, .slice none 0 0, lists, want⟩ := by
    rw [hW7]
    have := (((((((HL4.out.set_ 1 (.int .i64 n)).set_ 2 (.slice A4 1 c4)).set_ 3 (.bool false)).set_ 4 (.slice A5 (kW + 1) c5)).set_ 5 (.bool false)).set_ 6 (.bool false)).set_ 5 (.bool false)).set_ 6 (.bool false)
    simp only [List.setIfInBounds_toArray, List.set_cons_zero, List.set_cons_succ] at this
    exact this
  have hfp : ∀ y cs, Blk w4 y 241 cs → ¬ y = p := fun y cs hy e => by subst e; exact Blk.ne_ hy HL4.out (by decide) rfl
  have hM7 := HM4.out.only ho7 hfp
  have hW7' := HW4.out.only ho7 hfp
  go_ret
  refine ⟨.slice A4 1 c4, .slice A5 (kW + 1) c5, rfl, hl7, ⟨hM7, hW7', rfl, rfl, rfl, by omega, by omega⟩, ?_, ?_⟩
  · exact ((HD2.out.below HB3.out).below HB4.out).only ho7 (fun y hy e => HPD.out (e ▸ hy))
  · have h1 : Only (fun y => y = p ∨ y = db ∨ y = g) w w2 := (HO1.out.mono fun _ _ h => .inl h).trans (HO2.out.mono fun _ _ h => .inr h)
    exact ((h1.below HB3.out).below HB4.out).trans (ho7.mono fun _ _ h => .inl h)
end Go.Proofs.YtemondlgcmpbbaaGreatDoor
