/- Walks: every list that came out still reads as it must. -/
import Derived.Test.YtemondlgcmpbbaaGreatDoorMX28
import Derived.Deep.QuietTactic
namespace Go.Proofs.YtemondlgcmpbbaaGreatDoor
open Go.RowKit
set_option maxRecDepth 100000
section
variable {w : World} {B N p : Nat} {s : LdS} {ls : List LsI}
theorem LsOk.at (h : LsOk w B N s.lists s.want ls) : ∃ A1 c1 A2 c2, s.lists = .slice A1 ls.length c1 /\ s.want = .slice A2 ls.length c2 /\ ∀ j (hj : j < ls.length), ∃ g1 g2 B1 d1 B2 d2, A1 = some ⟨g1, 0, none⟩ /\ A2 = some ⟨g2, 0, none⟩ /\ ls[j].a = .slice B1 ls[j].l.length d1 /\ ls[j].b = .slice B2 ls[j].l.length d2 /\ w.cell? ⟨g1, j, none⟩ = some (.slice B1 ls[j].l.length d1) /\ w.cell? ⟨g2, j, none⟩ = some (.slice B2 ls[j].l.length d2) /\ ls[j].l.length <= maxLen /\
   ∀ k x, ls[j].l[k]? = some x -> ∃ h1 h2, B1 = some ⟨h1, 0, none⟩ /\ B2 = some ⟨h2, 0, none⟩ /\ w.cell? ⟨h1, k * 2, none⟩ = some (.string x.1) /\ w.cell? ⟨h1, k * 2 + 1, none⟩ = some (.string x.2) /\ w.cell? ⟨h2, k * 2, none⟩ = some (.string x.1) /\ w.cell? ⟨h2, k * 2 + 1, none⟩ = some (.string x.2) := by
 obtain ⟨ha, hb, he, hlen⟩ := h
 generalize s.lists = lv at ha ⊢
 generalize s.want = wv at hb ⊢
 obtain ⟨A1, c1, rfl, _⟩ := zad ha
 obtain ⟨A2, c2, rfl, _⟩ := zad hb
 refine ⟨A1, c1, A2, c2, rfl, rfl, fun j hj => ?_⟩
 obtain ⟨g1, h1, h2⟩ := zga ha j ls[j].a (by simp [hj])
 obtain ⟨g2, h3, h4⟩ := zga hb j ls[j].b (by simp [hj])
 obtain ⟨⟨b1, k1⟩, ⟨b2, k2⟩⟩ := he ls[j] (List.getElem_mem hj)
 obtain ⟨B1, d1, e1, _⟩ := zad k1
 obtain ⟨B2, d2, e2, _⟩ := zad k2
 rw [e1] at k1 h2
 rw [e2] at k2 h4
 obtain ⟨x1, x2, x3⟩ := zca k1 rfl
 obtain ⟨_, _, y3⟩ := zca k2 rfl
 refine ⟨g1, g2, B1, d1, B2, d2, h1, h3, e1, e2, h2, h4, by omega, fun k x hx => ?_⟩
 obtain ⟨u1, a1, a2, a3⟩ := x3 k x hx
 obtain ⟨u2, a4, a5, a6⟩ := y3 k x hx
 exact ⟨u1, u2, a1, a4, a2, a3, a5, a6⟩
set_option maxHeartbeats 4000000 in
theorem zrg (hl : LdAt w p s) (hls : LsOk w B N s.lists s.want ls) (hN : N <= 16385) :
   Calls Tryz.prog 152 #[pkv p] w fun e w' => e = .returned (.bool true) /\ Below w.heap.size w w' := by
 have hlen := hls.len
 obtain ⟨A1, c1, A2, c2, hl1, hl2, hat⟩ := hls.at
 clear hls
 obtain ⟨db, n, may, emp, were, wild, bit, xv, cc, commits, poi, tsv, lists, want⟩ := s
 simp only at hl1 hl2
 subst hl1 hl2
 have HL := zaa (fun W (hb : Below w.heap.size w W) => Blk.below hl hb hl.lt)
 have HAT := zaa hat
 have HCL := zaa (fun W (hb : Below w.heap.size w W) (g i : Nat) (v : Value) (h : w.cell? ⟨g, i, none⟩ = some v) => (hb.cell (p := ⟨g, i, none⟩) (World.block_lt_of_cell? w _ h)).trans h)
 clear hl hat
 unfold pkv
 go_enter Tryz.func152, Tryz.ntmps152
 go_wp2
 go_loopw [3] (fun iv wr => ∃ j : Nat, j <= ls.length /\ iv = .int .i64 j /\ Below w.heap.size w wr) (fun iv _ => ls.length - (intOf iv).toNat)
 case atStart => exact ⟨0, Nat.zero_le _, rfl, Below.refl _ _⟩
 case round =>
  obtain ⟨j, hj, rfl, hbr⟩ := hrel
  have hl := HL.out wr hbr
  have c12 := (zbi hl).2.2.2.2.2.1
  have c13 := (zbi hl).2.2.2.2.2.2
  by_cases hlt : j < ls.length
  . obtain ⟨g1, g2, B1, d1, B2, d2, rfl, rfl, e1, e2, r1, r2, hm, hpair⟩ := HAT.out j hlt
    have r1' := HCL.out wr hbr _ _ _ r1
    obtain ⟨L, hL⟩ : ∃ L, L = ls[j].l := ⟨_, rfl⟩
    rw [<- hL] at e1 e2 r1 r2 r1' hm hpair
    obtain ⟨nn, hnn⟩ : ∃ nn, nn = L.length := ⟨_, rfl⟩
    rw [<- hnn] at r1 r2 r1' hm
    have n0 : (0 : Int) <= (j : Int) := by omega
    have n1 : (j : Int) < (ls.length : Int) := by omega
    have HP := zaa hpair
    have HR1 := zaa r1
    have HR2 := zaa r2
    have HNN := zaa hnn
    have HM := zaa hm
    have HBR := zaa hbr
    clear hpair r1 r2 hnn hL e1 e2 hm hbr hl
    go_wp2
    go_loopw [4] (fun kv wq => ∃ k : Nat, k <= nn /\ kv = .int .i64 k /\ Below w.heap.size w wq) (fun kv _ => nn - (intOf kv).toNat)
    case atStart => exact ⟨0, Nat.zero_le _, rfl, HBR.out⟩
    case round =>
     obtain ⟨k, hk, rfl, hbq⟩ := hrel
     have hl2 := HL.out wr hbq
     have p12 := (zbi hl2).2.2.2.2.2.1
     have p13 := (zbi hl2).2.2.2.2.2.2
     have r1 := HCL.out wr hbq _ _ _ HR1.out
     have r2 := HCL.out wr hbq _ _ _ HR2.out
     have hmm := HM.out
     unfold maxLen at hmm
     by_cases hkl : k < nn
     . have hkL : k < L.length := by rw [<- HNN.out]; exact hkl
       obtain ⟨x, hx⟩ : ∃ x, L[k]? = some x := ⟨_, List.getElem?_eq_getElem hkL⟩
       obtain ⟨h1, h2, rfl, rfl, a1, a2, a3, a4⟩ := HP.out k x hx
       have a1 := HCL.out wr hbq _ _ _ a1
       have a2 := HCL.out wr hbq _ _ _ a2
       have a3 := HCL.out wr hbq _ _ _ a3
       have a4 := HCL.out wr hbq _ _ _ a4
       have m0 : (0 : Int) <= (k : Int) := by omega
       have m1 : (k : Int) < (nn : Int) := by omega
       have m2 : IntKind.i64.wrap ((k : Int) + 1) = (k : Int) + 1 := by rw [IntKind.wrap_i64]; omega
       obtain ⟨xa, xb⟩ := x
       have z1 : (xa.toList == xa.toList) = true := by simp
       have z2 : (xb.toList == xb.toList) = true := by simp
       simp only at a1 a2 a3 a4
       have HBQ := zaa hbq
       clear hbq hl2 hx hkL hmm
       go_upto_region 7 with fail
       go_quiet (fail)
       go_wp2
       go_roundw
       case rel => exact ⟨k + 1, by omega, by go_num, zam HBQ.out _⟩
       case measure => simp [intOf]; omega
     . have m1 : ¬ (k : Int) < (nn : Int) := by omega
       have m2 : IntKind.i64.wrap ((j : Int) + 1) = (j : Int) + 1 := by rw [IntKind.wrap_i64]; omega
       have HBQ := zaa hbq
       clear hbq hl2 hmm
       go_wp2
       go_roundw
       case rel => exact ⟨j + 1, by omega, by go_num, HBQ.out⟩
       case measure => simp [intOf]; omega
  . have n1 : ¬ (j : Int) < (ls.length : Int) := by omega
    have HBR := zaa hbr
    clear hbr hl
    go_wp2
    go_ret
    exact ⟨rfl, HBR.out⟩
end
end Go.Proofs.YtemondlgcmpbbaaGreatDoor
