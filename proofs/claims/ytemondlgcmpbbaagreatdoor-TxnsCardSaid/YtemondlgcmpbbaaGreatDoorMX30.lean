/- Zh Zi Nv: merged. -/
import Derived.Test.YtemondlgcmpbbaaGreatDoorMX29
import Derived.Deep.QuietTactic
import Derived.Test.YtemondlgcmpbbaaGreatDoorMX09
namespace Go.Proofs.YtemondlgcmpbbaaGreatDoor
open Go.RowKit
set_option maxRecDepth 100000
section
variable {w : World} {B N p x : Nat} {s : LdS} {bv cv : Value} {m : Nums} {τ : TxI} {S : DbS} {ts : List TxI}
theorem RowL.below {w' : World} {tsv : Value} (h : RowL w tsv ts) (hb : Below w.heap.size w w') : RowL w' tsv ts := by
 obtain ⟨A, c, e, hc, h⟩ := h
 refine ⟨A, c, e, hc, fun j hj => ?_⟩
 obtain ⟨g, h1, h2, h3⟩ := h j hj
 exact ⟨g, h1, (hb.cell (p := ⟨g, j, none⟩) (World.block_lt_of_cell? w _ h2)).trans h2, Blk.below h3 hb (Blk.lt h3)⟩
set_option maxHeartbeats 4000000 in
theorem zre (hl : LdAt w p s) (hcm : s.commits = 0) (hr : RowL w s.ts ts) (hN : ts.length <= 16384) :
   Calls Tryz.prog 216 #[pkv p] w fun e w' => e = .returned (.int .i64 0) /\ Below w.heap.size w w' := by
 obtain ⟨db, n, may, emp, were, wild, bit, xv, cc, commits, poi, tsv, lists, want⟩ := s
 simp only at hcm hr
 subst hcm
 have HR := zaa (fun W (hb : Below w.heap.size w W) => hr.below hb)
 have HL := zaa (fun W (hb : Below w.heap.size w W) => Blk.below hl hb hl.lt)
 obtain ⟨A, cap, rfl, hcap, _⟩ := hr
 clear hl
 unfold pkv
 go_enter Tryz.func216, Tryz.ntmps216
 go_wp2
 go_loopw [3, 4] (fun nv iv wr => ∃ j : Nat, j <= ts.length /\ iv = .int .i64 j /\ nv = .int .i64 0 /\ Below w.heap.size w wr) (fun _ iv _ => ts.length - (intOf iv).toNat)
 case atStart => exact ⟨0, Nat.zero_le _, rfl, rfl, Below.refl _ _⟩
 case round =>
  obtain ⟨j, hj, rfl, rfl, hbr⟩ := hrel
  have hl := HL.out wr hbr
  obtain ⟨_, _, c9, _, c11, hx⟩ := zbi hl
  clear hx
  by_cases hlt : j < ts.length
  . obtain ⟨A', cap', e, _, hrows⟩ := HR.out wr hbr
    injection e with e1 e2 e3
    subst e1 e3
    clear e2
    obtain ⟨g, rfl, hc, hlj⟩ := hrows j hlt
    obtain ⟨τ, hτ⟩ : ∃ τ, τ = ts[j] := ⟨_, rfl⟩
    rw [<- hτ] at hc hlj
    unfold pkv at hc
    have q3 := zab hlj 3 rfl
    have q6 := zab hlj 6 rfl
    obtain ⟨dn, hdn⟩ : ∃ dn, dn = τ.done := ⟨_, rfl⟩
    rw [<- hdn] at q3
    have n0 : (0 : Int) <= (j : Int) := by omega
    have n1 : (j : Int) < (ts.length : Int) := by omega
    have HBR := zaa hbr
    clear hτ hdn hbr hl hlj hrows
    cases dn with
    | true =>
      go_wp2
      go_quiet (fail)
      go_wp2
      go_roundw
      case rel => exact ⟨j + 1, by omega, by go_num, by first | rfl | trivial, zam HBR.out _⟩
      case measure => simp [intOf]; omega
    | false =>
      go_wp2
      go_quiet (fail)
      go_wp2
      go_roundw
      case rel => exact ⟨j + 1, by omega, by go_num, by first | rfl | trivial, zam HBR.out _⟩
      case measure => simp [intOf]; omega
  . have n1 : ¬ (j : Int) < (ts.length : Int) := by omega
    have HBR := zaa hbr
    clear hbr hl
    go_wp2
    go_ret
    exact ⟨rfl, HBR.out⟩
set_option maxHeartbeats 4000000 in
theorem zun (keys : Nat) (hl : LdAt w p s) (hcm : s.commits = 0) (hc : s.c = .slice none 0 0) (hr : RowL w s.ts ts) (hN : ts.length <= 16384) (hτ : zeg w τ) (hm : τ.most <= 140) (hn : s.n <= 1000) (hk : keys <= 1000) (hno : s.n < 3 * keys + 12) :
   Calls Tryz.prog 206 #[pkv p, pkv τ.l, .int .i64 keys] w fun e w' => e = .returned (.bool false) /\ Below w.heap.size w w' := by
 have HS := zaa (zre hl hcm hr hN)
 have HL := zaa (fun W (hb : Below w.heap.size w W) => Blk.below hl hb hl.lt)
 obtain ⟨db, n, may, emp, were, wild, bit, xv, cc, commits, poi, tsv, lists, want⟩ := s
 obtain ⟨l, t, wr, done, st, most, T, rp, dn, lv, csv, cs⟩ := τ
 simp only at hcm hr hc hm hn hno
 subst hc
 have q5 := zab hτ 5 rfl
 obtain ⟨p8, hx⟩ := (zbi hl).2
 clear hx hl hτ hr
 unfold pkv at *
 have n2 : ¬ (0 : Int) > (most : Int) := by omega
 have n2' : ¬ (most : Int) < 0 := by omega
 have n3' : ¬ (keys : Int) < 0 := by omega
 have f0 : IntKind.i64.wrap (3 * (most : Int)) = 3 * (most : Int) := by rw [IntKind.wrap_i64]; omega
 have f1 : IntKind.i64.wrap (3 * (most : Int) + 12) = 3 * (most : Int) + 12 := by rw [IntKind.wrap_i64]; omega
 have f2 : IntKind.i64.wrap (3 * (keys : Int)) = 3 * (keys : Int) := by rw [IntKind.wrap_i64]; omega
 have f3 : IntKind.i64.wrap (3 * (keys : Int) + 12) = 3 * (keys : Int) + 12 := by rw [IntKind.wrap_i64]; omega
 by_cases hkm : most < keys
 . have n1 : (most : Int) < (keys : Int) := by omega
   have n4 : ¬ (3 * (keys : Int) + 12 <= (n : Int)) := by omega
   have n5 : (n : Int) < 3 * (keys : Int) + 12 := by omega
   go_enter Tryz.func206, Tryz.ntmps206
   go_wp2_with (go_at_call 216; go_loud (
    refine HS.out.mono ?_; rintro e w1 ⟨rfl, hb⟩
    obtain ⟨_, p1, _, _, _, p5, _⟩ := zar (HL.out w1 hb)
    have HB := zaa hb
    clear hb))
   go_ret
   exact ⟨rfl, HB.out⟩
 . have n1 : ¬ (most : Int) < (keys : Int) := by omega
   have n4 : ¬ (3 * (most : Int) + 12 <= (n : Int)) := by omega
   have n5 : (n : Int) < 3 * (most : Int) + 12 := by omega
   go_enter Tryz.func206, Tryz.ntmps206
   go_wp2_with (go_at_call 216; go_loud (
    refine HS.out.mono ?_; rintro e w1 ⟨rfl, hb⟩
    obtain ⟨_, p1, _, _, _, p5, _⟩ := zar (HL.out w1 hb)
    have HB := zaa hb
    clear hb))
   go_ret
   exact ⟨rfl, HB.out⟩
end
section
variable {w : World} {B N p x : Nat} {s : LdS} {bv cv : Value} {m : Nums} {τ : TxI} {ts : List TxI}
set_option maxHeartbeats 4000000 in
theorem zla (k v : Str) (hl : LdAt w p s) (hpoi : s.poi = false) (hcm : s.commits = 0) (hcc : s.c = .slice none 0 0) (hdev : DkAt w s.db bv cv m) (hτ : TxOk w x B N τ) (hr : RowL w s.ts ts) (hN : ts.length <= 16384) (hwr : τ.wr = true) (hdo : τ.done = false) (hg : Glob w) (hk : k.size <= 9223372036854775807) (hv : v.size <= 9223372036854775807)
   (hc : chgN true false k v = 0) (hn : s.n <= 1000) (hno : s.n < 3 * (zcp k v τ.T.pairs).length + 12) (hwl : (zcp k v τ.T.pairs).length <= 1000)
   (hput : Calls Tryz.prog 24 #[pkv τ.t, .string k, .string v] w fun e w1 => ∃ f, e = .returned (zag f) /\ zao w1 f opPut 3 /\ Below w.heap.size w w1) :
   Calls Tryz.prog 184 #[pkv p, pkv τ.l, .string k, .string v, .bool false] w fun e w' => e = .returned (.bool true) /\ Below w.heap.size w w' := by
 have hlen := hτ.len
 have hmost := hτ.most
 have HRM := zaa (fun W (hb : Below w.heap.size w W) => zun (zcp k v τ.T.pairs).length (Blk.below hl hb hl.lt) hcm hcc (hr.below hb) hN (Blk.below hτ.law hb (Blk.lt hτ.law)) hmost hn hwl hno)
 have hlt := hτ.law
 have hrow := hτ.row
 obtain ⟨l, t, wr, done, st, most, T, rp, dn, lv, csv, cs⟩ := τ
 obtain ⟨db, n, may, emp, were, wild, bit, xv, cc, commits, poi, tsv, lists, want⟩ := s
 simp only at hpoi hdev hlen hput hwr hdo hmost HRM hrow
 subst hpoi hwr hdo
 have HT := zaa (zbc db bv cv m w hdev)
 obtain ⟨t0, _⟩ := zbm hlt
 have k0 := (zar hl).1
 have hcell : ∀ W, Below w.heap.size w W -> (W.cell? ⟨l, 1, none⟩ = some lv /\ W.cell? ⟨l, 2, none⟩ = some (.bool true) /\ W.cell? ⟨l, 3, none⟩ = some (.bool false) /\ W.cell? ⟨l, 4, none⟩ = some (.int .i64 st) /\ W.cell? ⟨l, 5, none⟩ = some (.int .i64 most) /\ W.cell? ⟨l, 6, none⟩ = some (.int .i64 0) /\ W.cell? ⟨l, 7, none⟩ = some (.int .i64 st)) /\ W.cell? ⟨p, 10, none⟩ = some (.bool false) /\ RRow W lv T.pairs /\ Glob W := fun W hb => by
  have h1 := Blk.below hlt hb (Blk.lt hlt)
  have h2 := Blk.below hl hb hl.lt
  exact ⟨⟨zab h1 1 rfl, zab h1 2 rfl, zab h1 3 rfl, zab h1 4 rfl, zab h1 5 rfl, zab h1 6 rfl, zab h1 7 rfl⟩, zab h2 10 rfl, hrow.below hb, hg.only (fp := fun _ => False) (Only.of_below hb) id⟩
 have HCH := zaa (fun W => zgq lv true false st most 0 st k v W (by omega) (by omega))
 rw [hc] at HCH
 have HW := zaa (fun W (h : RRow W lv T.pairs) => zir lv T.pairs k v W h (by omega))
 have HC := zaa hcell
 have HPUT := zaa hput
 unfold pkv at *
 clear hτ hl hlt hrow hcell hdev hc hput hr hg
 go_enter Tryz.func184, Tryz.ntmps184
 go_wp2_with (first
  | (go_at_call 178; refine HT.out.mono ?_; rintro e w' ⟨rfl, rfl⟩)
  | (go_at_call 24; go_loud (
     refine HPUT.out.mono ?_; rintro e w1 ⟨f, rfl, hf, hb1⟩
     have HTF := zaa (zbl f 3 _ w1 hf (HC.out w1 hb1).2.2.2)
     have HB1 := zaa hb1
     clear hb1 hf
     unfold zag at HTF
     unfold zag))
  | (go_at_call 30; go_loud (
     refine HTF.out.mono ?_; rintro e w2 ⟨rfl, hb2⟩
     have hb := HB1.out.trans (hb2.mono HB1.out.size)
     obtain ⟨⟨l1, l2, l3, l4, l5, l6, l7⟩, p10, _⟩ := HC.out w2 hb
     have HB2 := zaa hb
     clear hb hb2))
  | (go_at_call 179; refine (za6 _ _).mono ?_; rintro e w' ⟨rfl, rfl⟩)
  | (go_at_call 203; go_loud (
     refine (HCH.out _).mono ?_; rintro e w3 ⟨rfl, hb3⟩
     have hb := HB2.out.trans (hb3.mono HB2.out.size)
     clear p10 l1 l2 l3 l4 l5 l6 l7
     obtain ⟨⟨l1, l2, l3, l4, l5, l6, l7⟩, p10, hr3, _⟩ := HC.out w3 hb
     have HR3 := zaa (HW.out w3 hr3)
     have HB3 := zaa hb
     clear hb hb3 hr3))
  | (go_at_call 204; go_loud (
     refine HR3.out.mono ?_; rintro e w4 ⟨lv', rfl, hr4, hb4⟩
     obtain ⟨A', c', hA⟩ := hr4.form
     subst hA
     have hb := HB3.out.trans (hb4.mono HB3.out.size)
     have hbA : Below w.heap.size w (w4.alloc (.cells #[.slice A' (zcp k v T.pairs).length c'] 241)) := hb.trans ((Below.refl _ _).alloc (Nat.le_refl _) _ |>.mono hb.size)
     have HRM4 := zaa (HRM.out _ hbA)
     have HBA := zaa hbA
     clear hr4 hb hb4 hbA p10 l1 l2 l3 l4 l5 l6 l7))
  | (go_at_call 206; go_loud (
     refine HRM4.out.mono ?_; rintro e w5 ⟨rfl, hb5⟩
     have HB5 := zaa hb5
     clear hb5)))
 go_ret
 exact ⟨rfl, HBA.out.trans (HB5.out.mono HBA.out.size)⟩
end
def zhx : ByteArray := ⟨#[97, 98, 111, 114, 116]⟩
set_option maxHeartbeats 1000000 in
theorem zs8 (t x c : Nat) (τ : TxS) (s : DbS) (w : World) (hT : TxAt w t τ) (hD : DbAt w x s) (hx : τ.db = x) (hok : mayC s.poi τ.done false τ.write = c) (hc : c ≠ 0) :
   Calls Tryz.prog 27 #[.pointer (some ⟨t, 0, none⟩)] w fun e w' => ∃ f, e = .returned (zag f) /\ zao w' f zhx c /\ w.heap.size <= f /\ Below w.heap.size w w' := by
 have t0 : w.cell? ⟨t, 0, none⟩ = some (.pointer (some ⟨x, 0, none⟩)) := by rw [<- hx]; exact zab hT 0 rfl
 have htx : t ≠ x := Blk.ne_ hT hD (by decide)
 have HL := zaa (zce hD rfl)
 have HT := zaa hT
 have HD := zaa hD
 have HOK := zaa hok
 have HC := zaa hc
 clear hT hD hok hc
 go_enter_defers Tryz.func27, Tryz.ntmps27
 go_wp2_with (first
  | (go_at_call 51; refine HL.out.mono ?_; rintro e w1 ⟨rfl, hb1, ho1, hs1⟩
     have hT1 := HT.out.only ho1 htx
     have k0 : w1.cell? ⟨t, 0, none⟩ = some (.pointer (some ⟨x, 0, none⟩)) := by rw [<- hx]; exact zab hT1 0 rfl
     have HM := zaa (zij t x τ s 1 zhx false w1 hT1 hb1 hx)
     rw [HOK.out] at HM
     unfold zhx at HM
     have HB1 := zaa hb1
     have HO1 := zaa ho1
     clear hT1 hb1 ho1 hs1)
  | (go_at_call 54; refine HM.out.mono ?_; rintro e w2 ⟨v, rfl, hb2, ha⟩
     obtain ⟨f, rfl, hf, hlf⟩ : ∃ f, v = zag f /\ zao w2 f ⟨#[97, 98, 111, 114, 116]⟩ c /\ w1.heap.size <= f := by
      rcases ha with h | h
      . exact absurd h.1 HC.out
      . exact h.2
     unfold zag
     have HF := zaa hf
     have HLF := zaa hlf
     have HB2 := zaa hb2
     clear ha hf hlf hb2))
 refine leaves_cons (f := 52) (args := #[.pointer (some ⟨x, 0, none⟩)]) (by simp) (by simp [go_sem]) ?_
 have hD2 := HB1.out.below HB2.out HB1.out.lt
 have hne : f ≠ x := by have := HLF.out; have := HB1.out.lt; omega
 refine (zbd .returning hD2 rfl).mono ?_
 rintro e u' w4 ⟨rfl, rfl, hb4, ho4, hs4⟩
 refine ⟨_, results_tmp rfl _ _ _, f, rfl, Blk.only HF.out ho4 hne, Nat.le_trans HO1.out.size HLF.out, ?_⟩
 exact (((HO1.out).below HB2.out).trans ho4).back HD.out hb4
end Go.Proofs.YtemondlgcmpbbaaGreatDoor
