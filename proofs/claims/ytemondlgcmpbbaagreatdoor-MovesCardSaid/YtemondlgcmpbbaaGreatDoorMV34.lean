/- Walks: a cursor's move of the script, which does not come to be. -/
import Derived.Test.YtemondlgcmpbbaaGreatDoorMV32
import Derived.Test.YtemondlgcmpbbaaGreatDoorMV33
namespace Go.Proofs.YtemondlgcmpbbaaGreatDoor
open Go.RowKit
set_option maxRecDepth 100000
structure zod (how : Int) (c : Nat) (k : Str) (w : World) (Q : Ending -> World -> Prop) : Prop where
 first : how = 0 -> Calls Tryz.prog 43 #[.pointer (some ⟨c, 0, none⟩)] w Q
 last : how = 1 -> Calls Tryz.prog 45 #[.pointer (some ⟨c, 0, none⟩)] w Q
 seek : how = 2 -> Calls Tryz.prog 47 #[.pointer (some ⟨c, 0, none⟩), .string k] w Q
 next : how = 3 -> Calls Tryz.prog 44 #[.pointer (some ⟨c, 0, none⟩)] w Q
 prev : how = 4 -> Calls Tryz.prog 46 #[.pointer (some ⟨c, 0, none⟩)] w Q
section
variable {w : World} {B N p x : Nat} {s : LdS} {bv cv : Value} {m : Nums} {τ : TxI} {u : CuI}
set_option maxHeartbeats 8000000 in
theorem zvv (how : Int) (k : Str) (n : Nat) (hl : LdAt w p s) (hpoi : s.poi = false) (hdev : DkAt w s.db bv cv m) (hτ : TxOk w x B N τ) (hu : CuOk w τ.t τ.T τ.st u) (hg : Glob w) (_hk : k.size <= 9223372036854775807) (hh : how = 0 \/ how = 1 \/ how = 2 \/ how = 3 \/ how = 4)
   (hn : (τ.done = true /\ n = 5) \/ (τ.done = false /\ n = 11 /\ 3 <= how /\ (u.on = false \/ (u.on = true /\ u.stamp ≠ τ.st))))
   (hmv : ∀ W, Below w.heap.size w W -> zod how u.c k W fun e w1 => Below W.heap.size W w1 /\ ∃ f op, e = .returned (.tuple #[zao none, .bool false, zad f]) /\ zaj w1 f op n) :
   Calls Tryz.prog 189 #[pkv p, pkv τ.l, pkv u.q, .int .i64 how, .string k] w fun e w' => e = .returned (.bool true) /\ Below w.heap.size w w' := by
 have hlen := hτ.len
 have hlaw := hτ.law
 have hrow := hτ.row
 have hcu := hu.law
 obtain ⟨l, t, wr, done, st, most, T, rp, dn, lv, csv, cs⟩ := τ
 obtain ⟨q, c, key, on, stamp⟩ := u
 obtain ⟨db, nn, may, emp, were, wild, bit, xv, cc, commits, poi, ts, lists, want⟩ := s
 simp only at hpoi hdev hn hmv hlen hlaw hrow hcu
 subst hpoi
 obtain ⟨A, cap, hA⟩ := hrow.form
 subst hA
 have HT := zaa (zbn db bv cv m w hdev)
 have HS := zaa (fun W (h : RRow W (.slice A T.pairs.length cap) T.pairs) (kk : Str) => zl4 (.slice A T.pairs.length cap) T.pairs kk W h (by omega))
 have k0 := (zaq hl).1
 have hcell : ∀ W, Below w.heap.size w W -> W.cell? ⟨l, 1, none⟩ = some (.slice A T.pairs.length cap) /\ W.cell? ⟨l, 3, none⟩ = some (.bool done) /\ W.cell? ⟨l, 7, none⟩ = some (.int .i64 st) /\ W.cell? ⟨p, 10, none⟩ = some (.bool false) /\ W.cell? ⟨q, 0, none⟩ = some (.pointer (some ⟨c, 0, none⟩)) /\ W.cell? ⟨q, 1, none⟩ = some (.string key) /\ W.cell? ⟨q, 2, none⟩ = some (.bool on) /\ W.cell? ⟨q, 3, none⟩ = some (.int .i64 stamp) /\ RRow W (.slice A T.pairs.length cap) T.pairs /\ Glob W := fun W hb => by
  have h1 := Blk.below hlaw hb (Blk.lt hlaw)
  have h2 := Blk.below hl hb hl.lt
  have h3 := Blk.below hcu hb hcu.lt
  exact ⟨zab h1 1 rfl, zab h1 3 rfl, zab h1 7 rfl, zab h2 10 rfl, zab h3 0 rfl, zab h3 1 rfl, zab h3 2 rfl, zab h3 3 rfl, hrow.below hb, hg.only (fp := fun _ => False) (Only.of_below hb) id⟩
 obtain ⟨W1, hW1⟩ : ∃ W1, W1 = w.alloc (.cells #[.string ⟨#[]⟩, .string ⟨#[]⟩] 68) := ⟨_, rfl⟩
 have hb1 : Below w.heap.size w W1 := by rw [hW1]; exact (Below.refl _ _).alloc (Nat.le_refl _) _
 have hbx : Blk W1 w.heap.size 68 #[.string ⟨#[]⟩, .string ⟨#[]⟩] := by rw [hW1]; exact Blk.new _ _ _
 have HC := zaa hcell
 have HMV := zaa hmv
 have HB1 := zaa hb1
 have HBX := zaa hbx
 have HW1 := zaa hW1
 obtain ⟨d1, _⟩ := hcell w (Below.refl _ _)
 have d1' := fun o => zah o d1
 have hnl : ¬ w.heap.size = l := fun e => by have := Blk.lt hlaw; simp only at this; omega
 have hnl' : ¬ l = w.heap.size := fun e => hnl e.symm
 unfold pkv at *
 clear hτ hl hcell hdev hmv hb1 hbx hW1 hlaw hrow hcu hu hg
 go_enter Tryz.func189, Tryz.ntmps189
 go_upto_region 7 with (go_at_call 178; refine HT.out.mono ?_; rintro e w' ⟨rfl, rfl⟩)
 rw [<- HW1.out]
 clear d1 d1'
 obtain ⟨c1, c2, c3, c4, c5, c6, c7, c8, hr1, _⟩ := HC.out W1 HB1.out
 have HS1 := zaa (HS.out W1.drew hr1 key)
 clear hr1
 go_region_held3 (fun w' => w'.cell? ⟨l, 1, none⟩ = some (.slice A T.pairs.length cap) /\ w'.cell? ⟨q, 1, none⟩ = some (.string key)) (first | go_keep | exact ⟨c1, c6⟩) (first
  | (go_at_call 213; go_loud (
     refine HS1.out.mono ?_; rintro e w2 ⟨rfl, hb2⟩
     have hb := HB1.out.trans ((Below.drew (Below.refl _ W1)).trans hb2 |>.mono HB1.out.size)
     obtain ⟨e1, e2, e3, e4, e5, e6, e7, e8, hr2, _⟩ := HC.out w2 hb
     have HB2 := zaa hb
     have HBX2 := zaa (Blk.below (Blk.drew HBX.out) hb2 HBX.out.lt)
     have HR2 := zaa hr2
     clear c1 c2 c3 c4 c5 c6 c7 c8 hb2 hb hr2)))
 obtain ⟨w3, hw3⟩ : ∃ w3, w3 = w2 := ⟨_, rfl⟩
 have HM := zaa (HMV.out w2 HB2.out)
 have HRK := zaa (HS.out w2 HR2.out)
 have bz := HBX2.out.frozen 0
 have bc0 := zab HBX2.out 0 rfl
 have bc1 := zab HBX2.out 1 rfl
 clear hw3
 rcases hn with ⟨rfl, rfl⟩ | ⟨rfl, rfl, h3, hlost⟩
 . rcases hh with rfl | rfl | rfl | rfl | rfl
   . go_upto_region 22 with (first
       | (go_at_call 43; go_loud (
         refine (HM.out.first rfl).mono ?_; rintro e w4 ⟨hb4, f, op, rfl, hf⟩
         have hb := HB2.out.trans (hb4.mono HB2.out.size)
         have HBX4 := zaa (Blk.below HBX2.out hb4 HBX2.out.lt)
         have HF4 := zaa hf
         have b40 := zab HBX4.out 0 rfl
         have b41 := zab HBX4.out 1 rfl
         have bz4 := HBX4.out.frozen 0
         have bz5 := HBX4.out.frozen 1
         have HB4 := zaa hb
         obtain ⟨e1, _, _, _, _, _, _, _, hr4, _⟩ := HC.out w4 hb
         have HR4 := zaa hr4
         clear hb hb4 hf bc0 bc1 bz hr4
         unfold zad zao rK rV at *)))
     obtain ⟨W5, hW5⟩ : ∃ W5, W5 = (w4.setCell ⟨w.heap.size, 0, none⟩ (.string ⟨#[]⟩)).setCell ⟨w.heap.size, 1, none⟩ (.string ⟨#[]⟩) := ⟨_, rfl⟩
     have ho5 : Only (· = w.heap.size) w4 W5 := by rw [hW5]; exact (Only.set1 _ _ _ _).set2 _ _
     have hb5 : Below w.heap.size w W5 := HB4.out.trans (ho5.to_below HB4.out.size fun x hx => by omega)
     have hbx5 : Blk W5 w.heap.size 68 #[.string ⟨#[]⟩, .string ⟨#[]⟩] := by rw [hW5]; exact (HBX4.out.set_ 0 _).set_ 1 _
     have hf5 : zaj W5 f op 5 := Blk.only HF4.out ho5 (fun e => by subst e; exact Blk.ne_ HF4.out HBX4.out (by decide) rfl)
     have hW5' : (w4.setCell ⟨w.heap.size, 0, none⟩ (.string ByteArray.empty)).setCell ⟨w.heap.size, 1, none⟩ (.string ByteArray.empty) = W5 := hW5.symm
     rw [hW5']
     have HBX5 := zaa hbx5
     have HTF := zaa (za9 f 5 _ W5 hf5 (HC.out W5 hb5).2.2.2.2.2.2.2.2.2)
     have HB5 := zaa hb5
     unfold zad at HTF
     clear hb5 hbx5 hf5 hW5' hW5 ho5 b40 b41 bz4 bz5
     go_upto_region 25 with (first
      | (go_at_call 30; go_loud (
         refine HTF.out.mono ?_; rintro e w6 ⟨rfl, hb6⟩
         have hb := HB5.out.trans (hb6.mono HB5.out.size)
         have hbx6 := Blk.below HBX5.out hb6 HBX5.out.lt
         have g0 := zab hbx6 0 rfl
         have g1 := zab hbx6 1 rfl
         obtain ⟨f1, f2, f3, f4, f5, f6, f7, f8, _, _⟩ := HC.out w6 hb
         have HB6 := zaa hb
         clear hb hb6 hbx6))
      | (go_at_call 179; refine (zar _ _).mono ?_; rintro e w' ⟨rfl, rfl⟩))
     go_quiet (fail)
     go_wp2
     all_goals (go_ret; exact ⟨rfl, zae HB6.out _⟩)
   . go_upto_region 22 with (first
       | (go_at_call 45; go_loud (
         refine (HM.out.last rfl).mono ?_; rintro e w4 ⟨hb4, f, op, rfl, hf⟩
         have hb := HB2.out.trans (hb4.mono HB2.out.size)
         have HBX4 := zaa (Blk.below HBX2.out hb4 HBX2.out.lt)
         have HF4 := zaa hf
         have b40 := zab HBX4.out 0 rfl
         have b41 := zab HBX4.out 1 rfl
         have bz4 := HBX4.out.frozen 0
         have bz5 := HBX4.out.frozen 1
         have HB4 := zaa hb
         obtain ⟨e1, _, _, _, _, _, _, _, hr4, _⟩ := HC.out w4 hb
         have HR4 := zaa hr4
         clear hb hb4 hf bc0 bc1 bz hr4
         unfold zad zao rK rV at *)))
     obtain ⟨W5, hW5⟩ : ∃ W5, W5 = (w4.setCell ⟨w.heap.size, 0, none⟩ (.string ⟨#[]⟩)).setCell ⟨w.heap.size, 1, none⟩ (.string ⟨#[]⟩) := ⟨_, rfl⟩
     have ho5 : Only (· = w.heap.size) w4 W5 := by rw [hW5]; exact (Only.set1 _ _ _ _).set2 _ _
     have hb5 : Below w.heap.size w W5 := HB4.out.trans (ho5.to_below HB4.out.size fun x hx => by omega)
     have hbx5 : Blk W5 w.heap.size 68 #[.string ⟨#[]⟩, .string ⟨#[]⟩] := by rw [hW5]; exact (HBX4.out.set_ 0 _).set_ 1 _
     have hf5 : zaj W5 f op 5 := Blk.only HF4.out ho5 (fun e => by subst e; exact Blk.ne_ HF4.out HBX4.out (by decide) rfl)
     have hW5' : (w4.setCell ⟨w.heap.size, 0, none⟩ (.string ByteArray.empty)).setCell ⟨w.heap.size, 1, none⟩ (.string ByteArray.empty) = W5 := hW5.symm
     rw [hW5']
     have HBX5 := zaa hbx5
     have HTF := zaa (za9 f 5 _ W5 hf5 (HC.out W5 hb5).2.2.2.2.2.2.2.2.2)
     have HB5 := zaa hb5
     unfold zad at HTF
     clear hb5 hbx5 hf5 hW5' hW5 ho5 b40 b41 bz4 bz5
     go_upto_region 25 with (first
      | (go_at_call 30; go_loud (
         refine HTF.out.mono ?_; rintro e w6 ⟨rfl, hb6⟩
         have hb := HB5.out.trans (hb6.mono HB5.out.size)
         have hbx6 := Blk.below HBX5.out hb6 HBX5.out.lt
         have g0 := zab hbx6 0 rfl
         have g1 := zab hbx6 1 rfl
         obtain ⟨f1, f2, f3, f4, f5, f6, f7, f8, _, _⟩ := HC.out w6 hb
         have HB6 := zaa hb
         clear hb hb6 hbx6))
      | (go_at_call 179; refine (zar _ _).mono ?_; rintro e w' ⟨rfl, rfl⟩))
     go_quiet (fail)
     go_wp2
     all_goals (go_ret; exact ⟨rfl, zae HB6.out _⟩)
   . go_upto_region 22 with (first
       | (go_at_call 47; go_loud (
         refine (HM.out.seek rfl).mono ?_; rintro e w4 ⟨hb4, f, op, rfl, hf⟩
         have hb := HB2.out.trans (hb4.mono HB2.out.size)
         have HBX4 := zaa (Blk.below HBX2.out hb4 HBX2.out.lt)
         have HF4 := zaa hf
         have b40 := zab HBX4.out 0 rfl
         have b41 := zab HBX4.out 1 rfl
         have bz4 := HBX4.out.frozen 0
         have bz5 := HBX4.out.frozen 1
         have HB4 := zaa hb
         obtain ⟨e1, _, _, _, _, _, _, _, hr4, _⟩ := HC.out w4 hb
         have HR4 := zaa hr4
         clear hb hb4 hf bc0 bc1 bz hr4
         unfold zad zao rK rV at *))
       | (go_at_call 213; go_loud (
         obtain ⟨W5, hW5⟩ : ∃ W5, W5 = (w4.setCell ⟨w.heap.size, 0, none⟩ (.string ⟨#[]⟩)).setCell ⟨w.heap.size, 1, none⟩ (.string ⟨#[]⟩) := ⟨_, rfl⟩
         have ho5 : Only (· = w.heap.size) w4 W5 := by rw [hW5]; exact (Only.set1 _ _ _ _).set2 _ _
         have hb5 : Below w.heap.size w W5 := HB4.out.trans (ho5.to_below HB4.out.size fun x hx => by omega)
         have hbx5 : Blk W5 w.heap.size 68 #[.string ⟨#[]⟩, .string ⟨#[]⟩] := by rw [hW5]; exact (HBX4.out.set_ 0 _).set_ 1 _
         have hf5 : zaj W5 f op 5 := Blk.only HF4.out ho5 (fun e => by subst e; exact Blk.ne_ HF4.out HBX4.out (by decide) rfl)
         have hsk := HS.out W5 (HC.out W5 hb5).2.2.2.2.2.2.2.2.1 k
         have hW5' : (w4.setCell ⟨w.heap.size, 0, none⟩ (.string ByteArray.empty)).setCell ⟨w.heap.size, 1, none⟩ (.string ByteArray.empty) = W5 := hW5.symm
         rw [hW5']
         refine hsk.mono ?_; rintro e w5 ⟨rfl, hbk⟩
         have hb := hb5.trans (hbk.mono hb5.size)
         have HBX5 := zaa (Blk.below hbx5 hbk hbx5.lt)
         have HTF := zaa (za9 f 5 _ w5 (Blk.below hf5 hbk hf5.lt) (HC.out w5 hb).2.2.2.2.2.2.2.2.2)
         have HB5 := zaa hb
         unfold zad at HTF
         clear hb hb5 hbx5 hf5 hsk hW5' hW5 ho5 hbk e1 b40 b41 bz4 bz5)))
     go_upto_region 25 with (first
      | (go_at_call 30; go_loud (
         refine HTF.out.mono ?_; rintro e w6 ⟨rfl, hb6⟩
         have hb := HB5.out.trans (hb6.mono HB5.out.size)
         have hbx6 := Blk.below HBX5.out hb6 HBX5.out.lt
         have g0 := zab hbx6 0 rfl
         have g1 := zab hbx6 1 rfl
         obtain ⟨f1, f2, f3, f4, f5, f6, f7, f8, _, _⟩ := HC.out w6 hb
         have HB6 := zaa hb
         clear hb hb6 hbx6))
      | (go_at_call 179; refine (zar _ _).mono ?_; rintro e w' ⟨rfl, rfl⟩))
     go_quiet (fail)
     go_wp2
     all_goals (go_ret; exact ⟨rfl, zae HB6.out _⟩)
   . go_upto_region 22 with (first
       | (go_at_call 44; go_loud (
         refine (HM.out.next rfl).mono ?_; rintro e w4 ⟨hb4, f, op, rfl, hf⟩
         have hb := HB2.out.trans (hb4.mono HB2.out.size)
         have HBX4 := zaa (Blk.below HBX2.out hb4 HBX2.out.lt)
         have HF4 := zaa hf
         have b40 := zab HBX4.out 0 rfl
         have b41 := zab HBX4.out 1 rfl
         have bz4 := HBX4.out.frozen 0
         have bz5 := HBX4.out.frozen 1
         have HB4 := zaa hb
         obtain ⟨e1, _, _, _, _, _, _, _, hr4, _⟩ := HC.out w4 hb
         have HR4 := zaa hr4
         clear hb hb4 hf bc0 bc1 bz hr4
         unfold zad zao rK rV at *)))
     obtain ⟨W5, hW5⟩ : ∃ W5, W5 = (w4.setCell ⟨w.heap.size, 0, none⟩ (.string ⟨#[]⟩)).setCell ⟨w.heap.size, 1, none⟩ (.string ⟨#[]⟩) := ⟨_, rfl⟩
     have ho5 : Only (· = w.heap.size) w4 W5 := by rw [hW5]; exact (Only.set1 _ _ _ _).set2 _ _
     have hb5 : Below w.heap.size w W5 := HB4.out.trans (ho5.to_below HB4.out.size fun x hx => by omega)
     have hbx5 : Blk W5 w.heap.size 68 #[.string ⟨#[]⟩, .string ⟨#[]⟩] := by rw [hW5]; exact (HBX4.out.set_ 0 _).set_ 1 _
     have hf5 : zaj W5 f op 5 := Blk.only HF4.out ho5 (fun e => by subst e; exact Blk.ne_ HF4.out HBX4.out (by decide) rfl)
     have hW5' : (w4.setCell ⟨w.heap.size, 0, none⟩ (.string ByteArray.empty)).setCell ⟨w.heap.size, 1, none⟩ (.string ByteArray.empty) = W5 := hW5.symm
     rw [hW5']
     have HBX5 := zaa hbx5
     have HTF := zaa (za9 f 5 _ W5 hf5 (HC.out W5 hb5).2.2.2.2.2.2.2.2.2)
     have HB5 := zaa hb5
     unfold zad at HTF
     clear hb5 hbx5 hf5 hW5' hW5 ho5 b40 b41 bz4 bz5
     go_upto_region 25 with (first
      | (go_at_call 30; go_loud (
         refine HTF.out.mono ?_; rintro e w6 ⟨rfl, hb6⟩
         have hb := HB5.out.trans (hb6.mono HB5.out.size)
         have hbx6 := Blk.below HBX5.out hb6 HBX5.out.lt
         have g0 := zab hbx6 0 rfl
         have g1 := zab hbx6 1 rfl
         obtain ⟨f1, f2, f3, f4, f5, f6, f7, f8, _, _⟩ := HC.out w6 hb
         have HB6 := zaa hb
         clear hb hb6 hbx6))
      | (go_at_call 179; refine (zar _ _).mono ?_; rintro e w' ⟨rfl, rfl⟩))
     cases on with
     | false =>
       go_quiet (fail)
       go_wp2
       all_goals (go_ret; exact ⟨rfl, zae HB6.out _⟩)
     | true =>
       by_cases hst : stamp = st
       . have q1 : (stamp == st) = true := by simpa using hst
         have q2 : ¬ stamp ≠ st := by simpa using hst
         subst hst
         go_quiet (fail)
         go_wp2
         all_goals (go_ret; exact ⟨rfl, zae HB6.out _⟩)
       . have q1 : (stamp == st) = false := by simpa using hst
         go_quiet (fail)
         go_wp2
         all_goals (go_ret; exact ⟨rfl, zae HB6.out _⟩)
   . go_upto_region 22 with (first
       | (go_at_call 46; go_loud (
         refine (HM.out.prev rfl).mono ?_; rintro e w4 ⟨hb4, f, op, rfl, hf⟩
         have hb := HB2.out.trans (hb4.mono HB2.out.size)
         have HBX4 := zaa (Blk.below HBX2.out hb4 HBX2.out.lt)
         have HF4 := zaa hf
         have b40 := zab HBX4.out 0 rfl
         have b41 := zab HBX4.out 1 rfl
         have bz4 := HBX4.out.frozen 0
         have bz5 := HBX4.out.frozen 1
         have HB4 := zaa hb
         obtain ⟨e1, _, _, _, _, _, _, _, hr4, _⟩ := HC.out w4 hb
         have HR4 := zaa hr4
         clear hb hb4 hf bc0 bc1 bz hr4
         unfold zad zao rK rV at *)))
     obtain ⟨W5, hW5⟩ : ∃ W5, W5 = (w4.setCell ⟨w.heap.size, 0, none⟩ (.string ⟨#[]⟩)).setCell ⟨w.heap.size, 1, none⟩ (.string ⟨#[]⟩) := ⟨_, rfl⟩
     have ho5 : Only (· = w.heap.size) w4 W5 := by rw [hW5]; exact (Only.set1 _ _ _ _).set2 _ _
     have hb5 : Below w.heap.size w W5 := HB4.out.trans (ho5.to_below HB4.out.size fun x hx => by omega)
     have hbx5 : Blk W5 w.heap.size 68 #[.string ⟨#[]⟩, .string ⟨#[]⟩] := by rw [hW5]; exact (HBX4.out.set_ 0 _).set_ 1 _
     have hf5 : zaj W5 f op 5 := Blk.only HF4.out ho5 (fun e => by subst e; exact Blk.ne_ HF4.out HBX4.out (by decide) rfl)
     have hW5' : (w4.setCell ⟨w.heap.size, 0, none⟩ (.string ByteArray.empty)).setCell ⟨w.heap.size, 1, none⟩ (.string ByteArray.empty) = W5 := hW5.symm
     rw [hW5']
     have HBX5 := zaa hbx5
     have HTF := zaa (za9 f 5 _ W5 hf5 (HC.out W5 hb5).2.2.2.2.2.2.2.2.2)
     have HB5 := zaa hb5
     unfold zad at HTF
     clear hb5 hbx5 hf5 hW5' hW5 ho5 b40 b41 bz4 bz5
     go_upto_region 25 with (first
      | (go_at_call 30; go_loud (
         refine HTF.out.mono ?_; rintro e w6 ⟨rfl, hb6⟩
         have hb := HB5.out.trans (hb6.mono HB5.out.size)
         have hbx6 := Blk.below HBX5.out hb6 HBX5.out.lt
         have g0 := zab hbx6 0 rfl
         have g1 := zab hbx6 1 rfl
         obtain ⟨f1, f2, f3, f4, f5, f6, f7, f8, _, _⟩ := HC.out w6 hb
         have HB6 := zaa hb
         clear hb hb6 hbx6))
      | (go_at_call 179; refine (zar _ _).mono ?_; rintro e w' ⟨rfl, rfl⟩))
     cases on with
     | false =>
       go_quiet (fail)
       go_wp2
       all_goals (go_ret; exact ⟨rfl, zae HB6.out _⟩)
     | true =>
       by_cases hst : stamp = st
       . have q1 : (stamp == st) = true := by simpa using hst
         have q2 : ¬ stamp ≠ st := by simpa using hst
         subst hst
         go_quiet (fail)
         go_wp2
         all_goals (go_ret; exact ⟨rfl, zae HB6.out _⟩)
       . have q1 : (stamp == st) = false := by simpa using hst
         go_quiet (fail)
         go_wp2
         all_goals (go_ret; exact ⟨rfl, zae HB6.out _⟩)
 . rcases hh with rfl | rfl | rfl | rfl | rfl
   . omega
   . omega
   . omega
   . go_upto_region 22 with (first
       | (go_at_call 44; go_loud (
         refine (HM.out.next rfl).mono ?_; rintro e w4 ⟨hb4, f, op, rfl, hf⟩
         have hb := HB2.out.trans (hb4.mono HB2.out.size)
         have HBX4 := zaa (Blk.below HBX2.out hb4 HBX2.out.lt)
         have HF4 := zaa hf
         have b40 := zab HBX4.out 0 rfl
         have b41 := zab HBX4.out 1 rfl
         have bz4 := HBX4.out.frozen 0
         have bz5 := HBX4.out.frozen 1
         have HB4 := zaa hb
         obtain ⟨e1, _, _, _, _, _, _, _, hr4, _⟩ := HC.out w4 hb
         have HR4 := zaa hr4
         clear hb hb4 hf bc0 bc1 bz hr4
         unfold zad zao rK rV at *)))
     obtain ⟨W5, hW5⟩ : ∃ W5, W5 = (w4.setCell ⟨w.heap.size, 0, none⟩ (.string ⟨#[]⟩)).setCell ⟨w.heap.size, 1, none⟩ (.string ⟨#[]⟩) := ⟨_, rfl⟩
     have ho5 : Only (· = w.heap.size) w4 W5 := by rw [hW5]; exact (Only.set1 _ _ _ _).set2 _ _
     have hb5 : Below w.heap.size w W5 := HB4.out.trans (ho5.to_below HB4.out.size fun x hx => by omega)
     have hbx5 : Blk W5 w.heap.size 68 #[.string ⟨#[]⟩, .string ⟨#[]⟩] := by rw [hW5]; exact (HBX4.out.set_ 0 _).set_ 1 _
     have hf5 : zaj W5 f op 11 := Blk.only HF4.out ho5 (fun e => by subst e; exact Blk.ne_ HF4.out HBX4.out (by decide) rfl)
     have hW5' : (w4.setCell ⟨w.heap.size, 0, none⟩ (.string ByteArray.empty)).setCell ⟨w.heap.size, 1, none⟩ (.string ByteArray.empty) = W5 := hW5.symm
     rw [hW5']
     have HBX5 := zaa hbx5
     have HTF := zaa (za9 f 11 _ W5 hf5 (HC.out W5 hb5).2.2.2.2.2.2.2.2.2)
     have HB5 := zaa hb5
     unfold zad at HTF
     clear hb5 hbx5 hf5 hW5' hW5 ho5 b40 b41 bz4 bz5
     go_upto_region 25 with (first
      | (go_at_call 30; go_loud (
         refine HTF.out.mono ?_; rintro e w6 ⟨rfl, hb6⟩
         have hb := HB5.out.trans (hb6.mono HB5.out.size)
         have hbx6 := Blk.below HBX5.out hb6 HBX5.out.lt
         have g0 := zab hbx6 0 rfl
         have g1 := zab hbx6 1 rfl
         obtain ⟨f1, f2, f3, f4, f5, f6, f7, f8, _, _⟩ := HC.out w6 hb
         have HB6 := zaa hb
         clear hb hb6 hbx6))
      | (go_at_call 179; refine (zar _ _).mono ?_; rintro e w' ⟨rfl, rfl⟩))
     rcases hlost with rfl | ⟨rfl, hst⟩
     . go_quiet (fail)
       go_wp2
       all_goals (go_ret; exact ⟨rfl, zae HB6.out _⟩)
     . have q1 : (stamp == st) = false := by simpa using hst
       go_quiet (fail)
       go_wp2
       all_goals (go_ret; exact ⟨rfl, zae HB6.out _⟩)
   . go_upto_region 22 with (first
       | (go_at_call 46; go_loud (
         refine (HM.out.prev rfl).mono ?_; rintro e w4 ⟨hb4, f, op, rfl, hf⟩
         have hb := HB2.out.trans (hb4.mono HB2.out.size)
         have HBX4 := zaa (Blk.below HBX2.out hb4 HBX2.out.lt)
         have HF4 := zaa hf
         have b40 := zab HBX4.out 0 rfl
         have b41 := zab HBX4.out 1 rfl
         have bz4 := HBX4.out.frozen 0
         have bz5 := HBX4.out.frozen 1
         have HB4 := zaa hb
         obtain ⟨e1, _, _, _, _, _, _, _, hr4, _⟩ := HC.out w4 hb
         have HR4 := zaa hr4
         clear hb hb4 hf bc0 bc1 bz hr4
         unfold zad zao rK rV at *)))
     obtain ⟨W5, hW5⟩ : ∃ W5, W5 = (w4.setCell ⟨w.heap.size, 0, none⟩ (.string ⟨#[]⟩)).setCell ⟨w.heap.size, 1, none⟩ (.string ⟨#[]⟩) := ⟨_, rfl⟩
     have ho5 : Only (· = w.heap.size) w4 W5 := by rw [hW5]; exact (Only.set1 _ _ _ _).set2 _ _
     have hb5 : Below w.heap.size w W5 := HB4.out.trans (ho5.to_below HB4.out.size fun x hx => by omega)
     have hbx5 : Blk W5 w.heap.size 68 #[.string ⟨#[]⟩, .string ⟨#[]⟩] := by rw [hW5]; exact (HBX4.out.set_ 0 _).set_ 1 _
     have hf5 : zaj W5 f op 11 := Blk.only HF4.out ho5 (fun e => by subst e; exact Blk.ne_ HF4.out HBX4.out (by decide) rfl)
     have hW5' : (w4.setCell ⟨w.heap.size, 0, none⟩ (.string ByteArray.empty)).setCell ⟨w.heap.size, 1, none⟩ (.string ByteArray.empty) = W5 := hW5.symm
     rw [hW5']
     have HBX5 := zaa hbx5
     have HTF := zaa (za9 f 11 _ W5 hf5 (HC.out W5 hb5).2.2.2.2.2.2.2.2.2)
     have HB5 := zaa hb5
     unfold zad at HTF
     clear hb5 hbx5 hf5 hW5' hW5 ho5 b40 b41 bz4 bz5
     go_upto_region 25 with (first
      | (go_at_call 30; go_loud (
         refine HTF.out.mono ?_; rintro e w6 ⟨rfl, hb6⟩
         have hb := HB5.out.trans (hb6.mono HB5.out.size)
         have hbx6 := Blk.below HBX5.out hb6 HBX5.out.lt
         have g0 := zab hbx6 0 rfl
         have g1 := zab hbx6 1 rfl
         obtain ⟨f1, f2, f3, f4, f5, f6, f7, f8, _, _⟩ := HC.out w6 hb
         have HB6 := zaa hb
         clear hb hb6 hbx6))
      | (go_at_call 179; refine (zar _ _).mono ?_; rintro e w' ⟨rfl, rfl⟩))
     rcases hlost with rfl | ⟨rfl, hst⟩
     . go_quiet (fail)
       go_wp2
       all_goals (go_ret; exact ⟨rfl, zae HB6.out _⟩)
     . have q1 : (stamp == st) = false := by simpa using hst
       go_quiet (fail)
       go_wp2
       all_goals (go_ret; exact ⟨rfl, zae HB6.out _⟩)
end
end Go.Proofs.YtemondlgcmpbbaaGreatDoor
