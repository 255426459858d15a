/- Walks: shadowlaw's formatted on a disk of the wrong size; opened where nothing is found. -/
import Derived.Test.YtemondlgcmpbbaaGreatDoorLb
namespace Go.Proofs.YtemondlgcmpbbaaGreatDoor
open Go.RowKit

set_option maxRecDepth 100000 in
set_option maxHeartbeats 2000000 in
theorem formatted_bad (K p g base kM kW : Nat) (s : LdS) (m : Nums) (bytes : List UInt8) (w : World) (hl : LdAt w p s) (ho : LdOk w s kM kW) (hd : Dk w K s.db g base s.n (.slice none 0 0) m bytes []) (hf : fitsN s.n = false) (hg : Glob w) (hp0 : p ≠ 0) :
    Calls Tryz.prog 148 #[.pointer (some ⟨p, 0, none⟩)] w fun e w' => e = .returned (.bool true) ∧ LdAt w' p s.closed ∧ Only (· = p) w w' := by
  obtain ⟨AM, cM, AW, cW, eM, eW⟩ := LdAt.form (_p := p) ho
  obtain ⟨db, n, may, emp, were, wild, bit, x, c, commits, poi, ts, lists, want⟩ := s
  obtain ⟨hmay, hwere, e1, e2, e3, hkM, hkW⟩ := ho
  simp only at eM eW hmay hwere e1 e2 e3 hd hf
  subst eM eW e1 e2 e3
  have hpd : ¬ dfp db g (.slice none 0 0) p := disk_dfp hd hl (by decide) (by decide) (by decide)
  have HPD := hide hpd
  have HC := hide (close_any p _ w hl)
  have HD := hide hd
  have HF := hide hf
  have HG := hide hg
  clear hl hd hmay hwere hpd hf hg
  go_enter Tryz.func148, Tryz.ntmps148
  go_wp2_with (first
    | (go_at_call 177; go_loud (
       refine HC.out.mono ?_; rintro e w1 ⟨rfl, hl1, ho1⟩
       have hd1 := HD.out.only ho1 (fun y hy e => HPD.out (e ▸ hy))
       have hl1 : LdAt w1 p ⟨db, n, .slice AM kM cM, false, .slice AW kW cW, false, false, .pointer none, c, commits, false, .slice none 0 0, lists, want⟩ := hl1
       obtain ⟨k0, _⟩ := ld_cells hl1
       have HT := hide (told_any db _ _ m w1 hd1.at_)
       have HP := hide (sformat_bad K db g base n (.slice none 0 0) m bytes [] w1 hd1 HF.out)
       have HL1 := hide hl1
       have HO1 := hide ho1
       have HG1 := hide (HG.out.only ho1 (fun e => hp0 e.symm))
       clear hl1 ho1 hd1))
    | (go_at_call 178; refine HT.out.mono ?_; rintro e w' ⟨rfl, rfl⟩)
    | (go_at_call 50; go_loud (
       refine HP.out.mono ?_; rintro e w2 ⟨rfl, hw2⟩
       have hb2 : Below w1.heap.size w1 w2 := by rw [hw2]; exact (Below.refl _ _).alloc (Nat.le_refl _) _
       have hfa : FaultAt w2 w1.heap.size sFormat 10 := by rw [hw2]; exact Blk.new _ _ _
       have HTF := hide (told_fault w1.heap.size 10 sFormat w2 hfa (HG1.out.below hb2))
       unfold faultV at HTF
       have HB2 := hide hb2
       clear hb2 hfa hw2 k0
       unfold faultV))
    | (go_at_call 30; refine HTF.out.mono ?_; rintro e w3 ⟨rfl, hb3⟩
       have HL3 := hide (Blk.below (Blk.below HL1.out HB2.out HL1.out.lt) hb3 (Nat.lt_of_lt_of_le HL1.out.lt HB2.out.size))
       obtain ⟨_, k1, k2, k3, k4, k5, k6⟩ := ld_cells (show LdAt w3 p ⟨db, n, .slice AM kM cM, false, .slice AW kW cW, false, false, .pointer none, c, commits, false, .slice none 0 0, lists, want⟩ from HL3.out)
       have HB3 := hide hb3
       clear hb3)
    | (go_at_call 179; refine (num_any _ _).mono ?_; rintro e w' ⟨rfl, rfl⟩)
    | (go_at_call 180; refine (rfits_any _ _ _ _ _ _ _).mono ?_; rintro e w4 ⟨rfl, hb4⟩
       rw [HF.out]
       have HB4 := hide hb4
       clear hb4 k1 k2 k3 k4 k5 k6))
  go_ret
  have hl4 := Blk.below HL3.out HB4.out HL3.out.lt
  exact ⟨rfl, hl4, ((HO1.out.below HB2.out).below HB3.out).below HB4.out⟩

set_option maxRecDepth 100000 in
set_option maxHeartbeats 2000000 in
theorem opened_bad (K p g base kM kW : Nat) (s : LdS) (m : Nums) (bytes : List UInt8) (w : World) (hl : LdAt w p s) (ho : LdOk w s kM kW) (hd : Dk w K s.db g base s.n (.slice none 0 0) m bytes []) (hf : fitsN s.n = false) (hg : Glob w) (hp0 : p ≠ 0) :
    Calls Tryz.prog 149 #[.pointer (some ⟨p, 0, none⟩)] w fun e w' => e = .returned (.bool true) ∧ LdAt w' p s.closed ∧ Only (· = p) w w' := by
  obtain ⟨AM, cM, AW, cW, eM, eW⟩ := LdAt.form (_p := p) ho
  obtain ⟨db, n, may, emp, were, wild, bit, x, c, commits, poi, ts, lists, want⟩ := s
  obtain ⟨hmay, hwere, e1, e2, e3, hkM, hkW⟩ := ho
  simp only at eM eW hmay hwere e1 e2 e3 hd hf
  subst eM eW e1 e2 e3
  have hpd : ¬ dfp db g (.slice none 0 0) p := disk_dfp hd hl (by decide) (by decide) (by decide)
  have HPD := hide hpd
  have HC := hide (close_any p _ w hl)
  have HD := hide hd
  have HF := hide hf
  have HG := hide hg
  clear hl hd hmay hwere hpd hf hg
  go_enter Tryz.func149, Tryz.ntmps149
  go_wp2_with (first
    | (go_at_call 177; go_loud (
       refine HC.out.mono ?_; rintro e w1 ⟨rfl, hl1, ho1⟩
       have hd1 := HD.out.only ho1 (fun y hy e => HPD.out (e ▸ hy))
       have hl1 : LdAt w1 p ⟨db, n, .slice AM kM cM, false, .slice AW kW cW, false, false, .pointer none, c, commits, false, .slice none 0 0, lists, want⟩ := hl1
       obtain ⟨k0, _⟩ := ld_cells hl1
       have HT := hide (told_any db _ _ m w1 hd1.at_)
       have HP := hide (sopen_bad K db g base n (.slice none 0 0) m bytes [] w1 hd1 HF.out)
       have HL1 := hide hl1
       have HO1 := hide ho1
       have HG1 := hide (HG.out.only ho1 (fun e => hp0 e.symm))
       clear hl1 ho1 hd1))
    | (go_at_call 178; refine HT.out.mono ?_; rintro e w' ⟨rfl, rfl⟩)
    | (go_at_call 38; go_loud (
       refine HP.out.mono ?_; rintro e w2 ⟨rfl, hw2⟩
       have hb2 : Below w1.heap.size w1 w2 := by rw [hw2]; exact (Below.refl _ _).alloc (Nat.le_refl _) _
       have hfa : FaultAt w2 w1.heap.size sOpen 10 := by rw [hw2]; exact Blk.new _ _ _
       have HTF := hide (told_fault w1.heap.size 10 sOpen w2 hfa (HG1.out.below hb2))
       unfold faultV at HTF
       have HB2 := hide hb2
       clear hb2 hfa hw2 k0
       unfold faultV))
    | (go_at_call 30; refine HTF.out.mono ?_; rintro e w3 ⟨rfl, hb3⟩
       have HL3 := hide (Blk.below (Blk.below HL1.out HB2.out HL1.out.lt) hb3 (Nat.lt_of_lt_of_le HL1.out.lt HB2.out.size))
       obtain ⟨_, k1, k2, k3, k4, k5, k6⟩ := ld_cells (show LdAt w3 p ⟨db, n, .slice AM kM cM, false, .slice AW kW cW, false, false, .pointer none, c, commits, false, .slice none 0 0, lists, want⟩ from HL3.out)
       have HB3 := hide hb3
       clear hb3)
    | (go_at_call 179; refine (num_any _ _).mono ?_; rintro e w' ⟨rfl, rfl⟩)
    | (go_at_call 180; refine (rfits_any _ _ _ _ _ _ _).mono ?_; rintro e w4 ⟨rfl, hb4⟩
       rw [HF.out]
       have HB4 := hide hb4
       clear hb4 k1 k2 k3 k4 k5 k6))
  go_ret
  have hl4 := Blk.below HL3.out HB4.out HL3.out.lt
  exact ⟨rfl, hl4, ((HO1.out.below HB2.out).below HB3.out).below HB4.out⟩
end Go.Proofs.YtemondlgcmpbbaaGreatDoor
