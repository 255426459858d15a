/- Walks: shadowlaw's opened. -/
import Derived.Test.YtemondlgcmpbbaaGreatDoorLd
namespace Go.Proofs.YtemondlgcmpbbaaGreatDoor
open Go.RowKit

set_option maxRecDepth 100000 in
set_option maxHeartbeats 2000000 in
theorem opened_none (K p g base kW : Nat) (s : LdS) (m : Nums) (bytes : List UInt8) (w : World) (hl : LdAt w p s) (ho : LdOk w s 0 kW) (hd : Dk w K s.db g base s.n (.slice none 0 0) m bytes []) (hc : m.calm) (hf : fitsN s.n = true) (hK : K + 5 < edge) (hh : headsN (dread bytes []) = []) (hg : Glob w) (hp0 : p ≠ 0) (hb0 : s.db ≠ 0) :
    Calls Tryz.prog 149 #[.pointer (some ⟨p, 0, none⟩)] w fun e w' => e = .returned (.bool true) ∧ LdAt w' p s.closed ∧ Dk w' (K + 2) s.db g base s.n (.slice none 0 0) (ticks m 2) bytes [] ∧ Only (fun y => y = p ∨ y = s.db) w w' := by
  obtain ⟨AM, cM, AW, cW, eM, eW⟩ := LdAt.form (_p := p) ho
  obtain ⟨db, n, may, emp, were, wild, bit, x, c, commits, poi, ts, lists, want⟩ := s
  obtain ⟨hmay, hwere, e1, e2, e3, hkM, hkW⟩ := ho
  simp only at eM eW hmay hwere e1 e2 e3 hd hf hb0
  subst eM eW e1 e2 e3
  have hpd : ¬ dfp db g (.slice none 0 0) p := disk_dfp hd hl (by decide) (by decide) (by decide)
  have HPD := hide hpd
  have HC := hide (close_any p _ w hl)
  have HD := hide hd
  have HCA := hide hc
  have HF := hide hf
  have HH := hide hh
  have HG := hide hg
  clear hl hd hmay hwere hc hpd hf hh hg
  go_enter Tryz.func149, Tryz.ntmps149
  go_wp2_with (first
    | (go_at_call 177; go_loud (
       refine HC.out.mono ?_; rintro e w1 ⟨rfl, hl1, ho1⟩
       have hd1 := HD.out.only ho1 (fun y hy e => HPD.out (e ▸ hy))
       have hl1 : LdAt w1 p ⟨db, n, .slice AM 0 cM, false, .slice AW kW cW, false, false, .pointer none, c, commits, false, .slice none 0 0, lists, want⟩ := hl1
       obtain ⟨k0, _⟩ := ld_cells hl1
       have HT := hide (told_any db _ _ m w1 hd1.at_)
       have HP := hide (sopen_none K db g base n (.slice none 0 0) m bytes [] w1 hd1 HCA.out hK HF.out HH.out)
       have HL1 := hide hl1
       have HO1 := hide ho1
       have HD1 := hide hd1
       have HG1 := hide (HG.out.only ho1 (fun e => hp0 e.symm))
       clear hl1 ho1 hd1))
    | (go_at_call 178; refine HT.out.mono ?_; rintro e w' ⟨rfl, rfl⟩)
    | (go_at_call 38; go_loud (
       refine HP.out.mono ?_; rintro e w2 ⟨f, rfl, hfa, hzf, hd2, ho2⟩
       have HTF := hide (told_fault f 9 sOpen w2 hfa (HG1.out.only ho2 (fun e => hb0 e.symm)))
       have hl2 := Blk.only HL1.out ho2 (fun e => HPD.out (.inl e))
       unfold faultV at HTF
       have HL2 := hide hl2
       have HD2 := hide hd2
       have HO2 := hide ho2
       clear hfa hl2 hd2 ho2 k0
       unfold faultV))
    | (go_at_call 30; go_loud (
       refine HTF.out.mono ?_; rintro e w3 ⟨rfl, hb3⟩
       have hl3 := Blk.below HL2.out hb3 HL2.out.lt
       obtain ⟨_, k1, k2, k3, k4, k5, k6⟩ := ld_cells (show LdAt w3 p ⟨db, n, .slice AM 0 cM, false, .slice AW kW cW, false, false, .pointer none, c, commits, false, .slice none 0 0, lists, want⟩ from hl3)
       have HL3 := hide hl3
       have HB3 := hide hb3
       clear hb3 hl3))
    | (go_at_call 179; refine (num_any _ _).mono ?_; rintro e w' ⟨rfl, rfl⟩)
    | (go_at_call 180; go_loud (
       refine (rfits_any _ _ _ _ _ _ _).mono ?_; rintro e w4 ⟨rfl, hb4⟩
       rw [HF.out]
       have hl4 := Blk.below HL3.out hb4 HL3.out.lt
       obtain ⟨_, q1, q2, q3, q4, q5, q6⟩ := ld_cells (show LdAt w4 p ⟨db, n, .slice AM 0 cM, false, .slice AW kW cW, false, false, .pointer none, c, commits, false, .slice none 0 0, lists, want⟩ from hl4)
       have HL4 := hide hl4
       have HB4 := hide hb4
       clear hb4 hl4 k1 k2 k3 k4 k5 k6)))
  go_ret
  exact ⟨rfl, HL4.out, (HD2.out.below HB3.out).below HB4.out, (((HO1.out.mono fun _ _ h => .inl h).trans (HO2.out.mono fun _ _ h => .inr h)).below HB3.out).below HB4.out⟩

/-- What Open has left: the store in memory. -/
structure DbNew (w : World) (xb dk rd b : Nat) (hd : Hd) : Prop where
  db : DbAt w xb (DbS.fresh dk rd)
  rd : RdAt w rd []
  dk : Blk w dk 151 (#[dev b] ++ hd.cells)

set_option maxRecDepth 100000 in
set_option maxHeartbeats 2000000 in
theorem opened_some (K p g base kW : Nat) (s : LdS) (m : Nums) (bytes : List UInt8) (hd' : Hd) (tl : List Hd) (w : World) (hl : LdAt w p s) (ho : LdOk w s 1 kW) (hd : Dk w K s.db g base s.n (.slice none 0 0) m bytes []) (hc : m.calm) (hf : fitsN s.n = true) (hK : K + 5 < edge) (hh : headsN (dread bytes []) = hd' :: tl) (hz : hd'.blk = 0) (hkW2 : kW < 90000) :
    Calls Tryz.prog 149 #[.pointer (some ⟨p, 0, none⟩)] w fun e w' => ∃ may' were' xb dk rd, e = .returned (.bool true) ∧ LdAt w' p { s.closed with may := may', were := were', x := .pointer (some ⟨xb, 0, none⟩), c := .slice none 0 0, commits := 0 } ∧
      LdOk w' { s.closed with may := may', were := were', x := .pointer (some ⟨xb, 0, none⟩), c := .slice none 0 0, commits := 0 } 1 (kW + 1) ∧ DbNew w' xb dk rd s.db hd' ∧ w.heap.size ≤ xb ∧ w.heap.size ≤ dk ∧ w.heap.size ≤ rd ∧
      Dk w' (K + 3) s.db g base s.n (.slice none 0 0) (ticks m 3) bytes [] ∧ Only (fun y => y = p ∨ y = s.db ∨ y = g) w w' := by
  obtain ⟨AM, cM, AW, cW, eM, eW⟩ := LdAt.form (_p := p) ho
  obtain ⟨db, n, may, emp, were, wild, bit, x, c, commits, poi, ts, lists, want⟩ := s
  obtain ⟨hmay, hwere, e1, e2, e3, hkM, hkW⟩ := ho
  simp only at eM eW hmay hwere e1 e2 e3 hd hf
  subst eM eW e1 e2 e3
  have hpd : ¬ dfp db g (.slice none 0 0) p := disk_dfp hd hl (by decide) (by decide) (by decide)
  have hpl : p < w.heap.size := hl.lt
  have hbl : db < w.heap.size := hd.at_.lt
  have hgl : g < w.heap.size := hd.blk.lt
  have HPD := hide hpd
  have HC := hide (close_any p _ w hl)
  have HL0 := hide hl
  have HD := hide hd
  have HM := hide hmay
  have HW := hide hwere
  have HCA := hide hc
  have HF := hide hf
  have HH := hide hh
  clear hl hd hmay hwere hc hpd hf hh
  go_enter Tryz.func149, Tryz.ntmps149
  go_wp2_with (first
    | (go_at_call 177; go_loud (
       refine HC.out.mono ?_; rintro e w1 ⟨rfl, hl1, ho1⟩
       have hd1 := HD.out.only ho1 (fun y hy e => HPD.out (e ▸ hy))
       have hl1 : LdAt w1 p ⟨db, n, .slice AM 1 cM, false, .slice AW kW cW, false, false, .pointer none, c, commits, false, .slice none 0 0, lists, want⟩ := hl1
       obtain ⟨k0, _⟩ := ld_cells hl1
       have HT := hide (told_any db _ _ m w1 hd1.at_)
       have HP := hide (sopen_zero K db g base n (.slice none 0 0) m bytes [] w1 hd1 HCA.out hK HF.out hd' tl HH.out hz)
       have HM1 := hide (HM.out.only ho1 (fun y cs hy e => by subst e; exact Blk.ne_ hy HL0.out (by decide) rfl))
       have HW1 := hide (HW.out.only ho1 (fun y cs hy e => by subst e; exact Blk.ne_ hy HL0.out (by decide) rfl))
       have HL1 := hide hl1
       have HO1 := hide ho1
       have HD1 := hide hd1
       clear hl1 ho1 hd1))
    | (go_at_call 178; refine HT.out.mono ?_; rintro e w' ⟨rfl, rfl⟩)
    | (go_at_call 38; go_loud (
       refine HP.out.mono ?_; rintro e w2 ⟨xb, dk, rd, rfl, hx2, hr2, hdk2, hzx, hzd, hzr, hd2, ho2⟩
       have hl2 := Blk.only HL1.out ho2 (fun e => HPD.out (by rcases e with e | e; exact .inl e; exact .inr (.inl e)))
       obtain ⟨_, k1, k2, k3, k4, k5, k6⟩ := ld_cells (show LdAt w2 p ⟨db, n, .slice AM 1 cM, false, .slice AW kW cW, false, false, .pointer none, c, commits, false, .slice none 0 0, lists, want⟩ from hl2)
       have hfp : ∀ y cs, Blk w1 y 241 cs → ¬ (y = db ∨ y = g) := fun y cs hy e => by
         rcases e with e | e
         · subst e; exact Blk.ne_ hy HD1.out.at_ (by decide) rfl
         · subst e; exact Blk.ne_ hy HD1.out.blk (by decide) rfl
       have HM2 := hide (HM1.out.only ho2 hfp)
       have HW2 := hide (HW1.out.only ho2 hfp)
       have HL2 := hide hl2
       have HD2 := hide hd2
       have HO2 := hide ho2
       have HX2 := hide hx2
       have HR2 := hide hr2
       have HDK2 := hide hdk2
       clear hl2 hd2 ho2 hx2 hr2 hdk2 k0 hfp))
    | (go_at_call 30; refine (told_nil _).mono ?_; rintro e w' ⟨rfl, rfl⟩)
    | (go_at_call 179; refine (num_any _ _).mono ?_; rintro e w' ⟨rfl, rfl⟩)
    | (go_at_call 180; go_loud (
       refine (rfits_any _ _ _ _ _ _ _).mono ?_; rintro e w4 ⟨rfl, hb4⟩
       rw [HF.out]
       have hl4 := Blk.below HL2.out hb4 HL2.out.lt
       have hx4 := Blk.below HX2.out hb4 HX2.out.lt
       have hr4 := HR2.out.only (fp := fun _ => False) (Only.of_below hb4) id
       have HFD := hide (found_any (K + 3) p g base kW xb dk rd ⟨db, n, .slice AM 1 cM, false, .slice AW kW cW, false, false, .pointer none, c, commits, false, .slice none 0 0, lists, want⟩ (ticks m 3) bytes w4 hl4 ⟨HM2.out.below hb4, HW2.out.below hb4, rfl, rfl, rfl, by omega, hkW⟩ (HD2.out.below hb4) hx4 hr4 hkW2)
       have HB4 := hide hb4
       clear hb4 hl4 hx4 hr4 k1 k2 k3 k4 k5 k6))
    | (go_at_call 183; refine HFD.out.mono ?_; rintro e w5 ⟨may', were', rfl, hl5, ho5, hx5, hr5, ho5'⟩))
  go_ret
  have h1s := HO1.out.size
  have hfpd : ∀ y, dfp db g (.slice none 0 0) y → ¬ (y = p ∨ y = xb ∨ y = rd) := fun y hy e => by
    have hylt : y < w.heap.size := HD.out.lt hy
    rcases e with e | e | e
    · subst e; exact HPD.out hy
    · omega
    · omega
  have hdkne : ¬ (dk = p ∨ dk = xb ∨ dk = rd) := fun e => by
    rcases e with e | e | e
    · omega
    · subst e; exact Blk.ne_ HDK2.out HX2.out (by decide) rfl
    · subst e; exact HR2.out.ne_blk HDK2.out rfl
  refine ⟨may', were', xb, dk, rd, rfl, hl5, ho5, ⟨hx5, hr5, (HDK2.out.below HB4.out HDK2.out.lt).only ho5' hdkne⟩, by omega, by omega, by omega, (HD2.out.below HB4.out).only ho5' hfpd, ?_⟩
  have h2 : Only (fun y => y = p ∨ y = db ∨ y = g) w w4 := ((HO1.out.mono fun _ _ h => .inl h).trans (HO2.out.mono fun _ _ h => .inr h)).below HB4.out
  exact h2.trans' ho5' (fun y hy e => by rcases e with e | e | e; exact .inl e; omega; omega)
end Go.Proofs.YtemondlgcmpbbaaGreatDoor
