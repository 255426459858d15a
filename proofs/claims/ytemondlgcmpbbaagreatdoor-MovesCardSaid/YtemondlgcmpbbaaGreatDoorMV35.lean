/- Walks: a cursor's move of the script. -/
import Derived.Test.YtemondlgcmpbbaaGreatDoorMV34
namespace Go.Proofs.YtemondlgcmpbbaaGreatDoor
open Go.RowKit
set_option maxRecDepth 100000
section
variable {w : World} {B N p x : Nat} {s : LdS} {bv cv : Value} {m : Nums} {τ : TxI} {u : CuI}
theorem ztw {k : Str} (h : 1 <= k.size) : ¬ k.toList = [] := by
 intro e
 rw [ByteArray.toList_eq] at e
 have h2 : k.data.toList.length = k.size := Array.length_toList
 rw [e] at h2
 simp only [List.length_nil] at h2
 omega
theorem zl9 (k : Str) (l : List (Str × Str)) : place k l <= l.length := by unfold place; exact (List.takeWhile_sublist _).length_le
structure zfh (how : Int) (k key : Str) (L : List (Str × Str)) (res : Option (Str × Str)) : Prop where
 none : res = none -> (how = 0 -> L.length = 0) /\ (how = 1 -> L.length = 0) /\ (how = 2 -> L.length <= place k L) /\ (how = 3 -> L.length <= place key L + 1) /\ (how = 4 -> place key L = 0)
 some : ∀ e, res = some e -> 1 <= e.1.size /\ ∃ j, L[j]? = some e /\ (how = 0 -> j = 0) /\ (how = 1 -> j + 1 = L.length) /\ (how = 2 -> j = place k L) /\ (how = 3 -> j = place key L + 1) /\ (how = 4 -> j + 1 = place key L)
def zyy (w w' : World) (τ : TxI) (u : CuI) (res : Option (Str × Str)) : Prop :=
 Blk w' u.q 302 #[.pointer (some ⟨u.c, 0, none⟩), .string (rK res), .bool res.isSome, .int .i64 τ.st] /\ zbj w' u.c τ.t (rK res) res.isSome τ.st /\ Only (fun y => y = u.c \/ y = u.q) w w'
set_option maxHeartbeats 8000000 in
theorem zvw (how : Int) (k : Str) (res : Option (Str × Str)) (hl : LdAt w p s) (hpoi : s.poi = false) (hdev : DkAt w s.db bv cv m) (hτ : TxOk w x B N τ) (hu : CuOk w τ.t τ.T τ.st u) (_hk : k.size <= 9223372036854775807) (hh : how = 0 \/ how = 1 \/ how = 2 \/ how = 3 \/ how = 4)
   (hdo : τ.done = false) (hlost : 3 <= how -> u.on = true /\ u.stamp = τ.st) (hgo : zfh how k u.key τ.T.pairs res)
   (hmv : ∀ W, Below w.heap.size w W -> zod how u.c k W fun e w1 => e = .returned (.tuple #[zao res, .bool res.isSome, .nilIface]) /\ zbj w1 u.c τ.t (rK res) res.isSome τ.st /\ Only (· = u.c) W w1) :
   Calls Tryz.prog 189 #[pkv p, pkv τ.l, pkv u.q, .int .i64 how, .string k] w fun e w' => e = .returned (.bool true) /\ zyy w w' τ u res := by
 have hlen := hτ.len
 have hlaw := hτ.law
 have hrow := hτ.row
 have hcu := hu.law
 have hat := hu.at_
 obtain ⟨l, t, wr, done, st, most, T, rp, dn, lv, csv, cs⟩ := τ
 obtain ⟨q, c, key, on, stamp⟩ := u
 obtain ⟨db, nn, may, emp, were, wild, bit, xv, cc, commits, poi, ts, lists, want⟩ := s
 simp only at hpoi hdev hdo hlost hgo hmv hlen hlaw hrow hcu hat
 subst hpoi hdo
 obtain ⟨A, cap, hA⟩ := hrow.form
 subst hA
 have HT := zaa (zbn db bv cv m w hdev)
 have HS := zaa (fun W (h : RRow W (.slice A T.pairs.length cap) T.pairs) (kk : Str) => zl4 (.slice A T.pairs.length cap) T.pairs kk W h (by omega))
 have k0 := (zaq hl).1
 have hcell : ∀ W, Only (· = c) w W -> zeq W ⟨l, t, wr, false, st, most, T, rp, dn, .slice A T.pairs.length cap, csv, cs⟩ /\ W.cell? ⟨p, 10, none⟩ = some (.bool false) /\ Blk W q 302 #[.pointer (some ⟨c, 0, none⟩), .string key, .bool on, .int .i64 stamp] /\ RRow W (.slice A T.pairs.length cap) T.pairs := fun W ho => by
  have h1 := Blk.only hlaw ho (fun e => Blk.ne_ hlaw hat (by decide) e)
  have h2 := Blk.only hl ho (fun e => Blk.ne_ hl hat (by decide) e)
  have h3 := Blk.only hcu ho (fun e => Blk.ne_ hcu hat (by decide) e)
  exact ⟨h1, zab h2 10 rfl, h3, hrow.only ho (fun z cs hz e => by
   have e' : z = c := e
   subst e'
   exact Blk.ne_ hz hat (by decide) rfl)⟩
 obtain ⟨W1, hW1⟩ : ∃ W1, W1 = w.alloc (.cells #[.string ⟨#[]⟩, .string ⟨#[]⟩] 68) := ⟨_, rfl⟩
 have hb1 : Below w.heap.size w W1 := by rw [hW1]; exact (Below.refl _ _).alloc (Nat.le_refl _) _
 have hbx : Blk W1 w.heap.size 68 #[.string ⟨#[]⟩, .string ⟨#[]⟩] := by rw [hW1]; exact Blk.new _ _ _
 have hql : q < w.heap.size := hcu.lt
 have hll : l < w.heap.size := Blk.lt hlaw
 have hcl : c < w.heap.size := Blk.lt hat
 have hqc : q ≠ c := Blk.ne_ hcu hat (by decide)
 have hnl : ¬ w.heap.size = l := by omega
 have hnl' : ¬ l = w.heap.size := by omega
 have hnq : ¬ w.heap.size = q := by omega
 have hnq' : ¬ q = w.heap.size := by omega
 have hlq : ¬ l = q := fun e => Blk.ne_ hlaw hcu (by decide) e
 have hlq' : ¬ q = l := fun e => hlq e.symm
 have HC := zaa hcell
 have HMV := zaa hmv
 have HB1 := zaa hb1
 have HBX := zaa hbx
 have HW1 := zaa hW1
 have d1 : w.cell? ⟨l, 1, none⟩ = some (.slice A T.pairs.length cap) := zab hlaw 1 rfl
 have d1' := fun o => zah o d1
 unfold pkv at *
 clear hτ hl hcell hdev hmv hb1 hbx hW1 hlaw hrow hcu hu hat
 go_enter Tryz.func189, Tryz.ntmps189
 go_upto_region 7 with (go_at_call 178; refine HT.out.mono ?_; rintro e w' ⟨rfl, rfl⟩)
 rw [<- HW1.out]
 clear d1 d1'
 obtain ⟨hl1, _, hq1, hr1⟩ := HC.out W1 (Only.of_below HB1.out)
 have c1 := zab hl1 1 rfl
 have c6 := zab hq1 1 rfl
 have HS1 := zaa (HS.out W1.drew hr1 key)
 clear hr1 hl1 hq1
 go_region_held3 (fun w' => w'.cell? ⟨l, 1, none⟩ = some (.slice A T.pairs.length cap) /\ w'.cell? ⟨q, 1, none⟩ = some (.string key)) (first | go_keep | exact ⟨c1, c6⟩) (first
  | (go_at_call 213; go_loud (
     refine HS1.out.mono ?_; rintro e w2 ⟨rfl, hb2⟩
     have hb := HB1.out.trans ((Below.drew (Below.refl _ W1)).trans hb2 |>.mono HB1.out.size)
     obtain ⟨hl2, _, hq2, hr2⟩ := HC.out w2 (Only.of_below hb)
     have e1 := zab hl2 1 rfl
     have e5 := zab hq2 0 rfl
     have e6 := zab hq2 1 rfl
     have HB2 := zaa hb
     have HBX2 := zaa (Blk.below (Blk.drew HBX.out) hb2 HBX.out.lt)
     have HR2 := zaa hr2
     clear c1 c6 hb2 hb hr2 hl2 hq2)))
 have HM := zaa (HMV.out w2 HB2.out)
 have HRK := zaa (HS.out w2 HR2.out)
 have bz := HBX2.out.frozen 0
 have bc0 := zab HBX2.out 0 rfl
 have bc1 := zab HBX2.out 1 rfl
 cases res with
 | none =>
   have N0 := zaa (hgo.none rfl)
   have hpl := zl9 key T.pairs
   clear hgo
   rcases hh with rfl | rfl | rfl | rfl | rfl
   . go_upto_region 22 with (first
       | (go_at_call 43; go_loud (
         refine (HM.out.first rfl).mono ?_; rintro e w4 ⟨rfl, hcu4, ho4⟩
         have hbx4 := Blk.only HBX2.out ho4 (fun e => by have e' : w.heap.size = c := e; omega)
         have ho := (Only.of_below (fp := (· = c)) HB2.out).trans ho4
         obtain ⟨hl4, p4, hq4, hr4⟩ := HC.out w4 ho
         have b40 := zab hbx4 0 rfl
         have b41 := zab hbx4 1 rfl
         have bz4 := hbx4.frozen 0
         have bz5 := hbx4.frozen 1
         have l41 := zab hl4 1 rfl
         have HBX4 := zaa hbx4
         have HL4 := zaa hl4
         have HQ4 := zaa hq4
         have HR4 := zaa hr4
         have HCU4 := zaa hcu4
         have HO4 := zaa ho
         clear hbx4 hl4 hq4 hr4 hcu4 ho ho4 bc0 bc1 bz e1 e5 e6 p4
         unfold zao rK rV)))
     obtain ⟨W5, hW5⟩ : ∃ W5, W5 = (w4.setCell ⟨w.heap.size, 0, none⟩ (.string ByteArray.empty)).setCell ⟨w.heap.size, 1, none⟩ (.string ByteArray.empty) := ⟨_, rfl⟩
     have ho5 : Only (· = w.heap.size) w4 W5 := by rw [hW5]; exact (Only.set1 _ _ _ _).set2 _ _
     have hb5 : Below w.heap.size w4 W5 := ho5.to_below HO4.out.size fun x hx => by omega
     have hbx5 : Blk W5 w.heap.size 68 #[.string ByteArray.empty, .string ByteArray.empty] := by rw [hW5]; exact (HBX4.out.set_ 0 _).set_ 1 _
     have hcu5 := Blk.only HCU4.out ho5 (fun e => by have e' : c = w.heap.size := e; omega)
     have ho : Only (· = c) w W5 := HO4.out.trans' (ho5.mono (fq := (· = w.heap.size)) fun _ _ h => h) (fun y hy e => by have e' : y = w.heap.size := e; omega)
     rw [<- hW5]
     have HBX5 := zaa hbx5
     have HCU5 := zaa hcu5
     have HO5 := zaa ho
     clear hb5 hbx5 hcu5 hW5 ho5 ho b40 b41 bz4 bz5 l41
     obtain ⟨h5l, p5, h5q, h5r⟩ := HC.out W5 HO5.out
     have g0 := zab HBX5.out 0 rfl
     have g1 := zab HBX5.out 1 rfl
     have f1 := zab h5l 1 rfl
     have f3 := zab h5l 3 rfl
     have f7 := zab h5l 7 rfl
     have y1 := zab h5q 1 rfl
     have y2 := zab h5q 2 rfl
     have y3 := zab h5q 3 rfl
     have H5L := zaa h5l
     have H5Q := zaa h5q
     clear h5l h5q
     have n1 : (T.pairs.length : Int) = 0 := by have := N0.out.1 (by simp); omega
     have n2 : (T.pairs.length : Int) <= 0 := by omega
     go_upto_region 25 with (first
      | (go_at_call 30; refine (zbg _).mono ?_; rintro e w' ⟨rfl, rfl⟩)
      | (go_at_call 179; refine (zar _ _).mono ?_; rintro e w' ⟨rfl, rfl⟩))
     go_quiet (fail)
     obtain ⟨W6, hW6⟩ : ∃ W6, W6 = W5.drewN nq := ⟨_, rfl⟩
     rw [<- hW6]
     have hb6 : Below W5.heap.size W5 W6 := by rw [hW6]; exact zae (Below.refl _ _) nq
     have hbx6 := Blk.below HBX5.out hb6 HBX5.out.lt
     have hq6 := Blk.below H5Q.out hb6 H5Q.out.lt
     have hl6 := Blk.below H5L.out hb6 (Blk.lt H5L.out)
     have hcu6 := Blk.below HCU5.out hb6 (Blk.lt HCU5.out)
     have ho6 := HO5.out.below hb6
     obtain ⟨_, p6, _, hr6⟩ := HC.out W6 ho6
     clear g0 g1 f1 f3 f7 y1 y2 y3 p5
     have g0 := zab hbx6 0 rfl
     have g1 := zab hbx6 1 rfl
     have f1 := zab hl6 1 rfl
     have f3 := zab hl6 3 rfl
     have f7 := zab hl6 7 rfl
     have y1 := zab hq6 1 rfl
     have y2 := zab hq6 2 rfl
     have y3 := zab hq6 3 rfl
     have z1 := hq6.frozen 1
     have z2 := hq6.frozen 2
     have z3 := hq6.frozen 3
     have HBX6 := zaa hbx6
     have HQ6 := zaa hq6
     have HL6 := zaa hl6
     have HCU6 := zaa hcu6
     have HO6 := zaa ho6
     clear hbx6 hq6 hl6 hcu6 ho6 hb6 hW6
     go_wp2
     go_ret
     have hoq : Only (· = q) W6 (((W6.setCell ⟨q, 1, none⟩ (.string ⟨#[]⟩)).setCell ⟨q, 2, none⟩ (.bool false)).setCell ⟨q, 3, none⟩ (.int .i64 st)) := ((Only.set1 _ _ _ _).set2 _ _).set2 _ _
     exact ⟨rfl, ((HQ6.out.set_ 1 _).set_ 2 _).set_ 3 _, Blk.only HCU6.out hoq (fun e => hqc e.symm), (HO6.out.mono fun y _ hy => .inl hy).trans (hoq.mono fun y _ hy => .inr hy)⟩
   . go_upto_region 22 with (first
       | (go_at_call 45; go_loud (
         refine (HM.out.last rfl).mono ?_; rintro e w4 ⟨rfl, hcu4, ho4⟩
         have hbx4 := Blk.only HBX2.out ho4 (fun e => by have e' : w.heap.size = c := e; omega)
         have ho := (Only.of_below (fp := (· = c)) HB2.out).trans ho4
         obtain ⟨hl4, p4, hq4, hr4⟩ := HC.out w4 ho
         have b40 := zab hbx4 0 rfl
         have b41 := zab hbx4 1 rfl
         have bz4 := hbx4.frozen 0
         have bz5 := hbx4.frozen 1
         have l41 := zab hl4 1 rfl
         have HBX4 := zaa hbx4
         have HL4 := zaa hl4
         have HQ4 := zaa hq4
         have HR4 := zaa hr4
         have HCU4 := zaa hcu4
         have HO4 := zaa ho
         clear hbx4 hl4 hq4 hr4 hcu4 ho ho4 bc0 bc1 bz e1 e5 e6 p4
         unfold zao rK rV)))
     obtain ⟨W5, hW5⟩ : ∃ W5, W5 = (w4.setCell ⟨w.heap.size, 0, none⟩ (.string ByteArray.empty)).setCell ⟨w.heap.size, 1, none⟩ (.string ByteArray.empty) := ⟨_, rfl⟩
     have ho5 : Only (· = w.heap.size) w4 W5 := by rw [hW5]; exact (Only.set1 _ _ _ _).set2 _ _
     have hb5 : Below w.heap.size w4 W5 := ho5.to_below HO4.out.size fun x hx => by omega
     have hbx5 : Blk W5 w.heap.size 68 #[.string ByteArray.empty, .string ByteArray.empty] := by rw [hW5]; exact (HBX4.out.set_ 0 _).set_ 1 _
     have hcu5 := Blk.only HCU4.out ho5 (fun e => by have e' : c = w.heap.size := e; omega)
     have ho : Only (· = c) w W5 := HO4.out.trans' (ho5.mono (fq := (· = w.heap.size)) fun _ _ h => h) (fun y hy e => by have e' : y = w.heap.size := e; omega)
     rw [<- hW5]
     have HBX5 := zaa hbx5
     have HCU5 := zaa hcu5
     have HO5 := zaa ho
     clear hb5 hbx5 hcu5 hW5 ho5 ho b40 b41 bz4 bz5 l41
     obtain ⟨h5l, p5, h5q, h5r⟩ := HC.out W5 HO5.out
     have g0 := zab HBX5.out 0 rfl
     have g1 := zab HBX5.out 1 rfl
     have f1 := zab h5l 1 rfl
     have f3 := zab h5l 3 rfl
     have f7 := zab h5l 7 rfl
     have y1 := zab h5q 1 rfl
     have y2 := zab h5q 2 rfl
     have y3 := zab h5q 3 rfl
     have H5L := zaa h5l
     have H5Q := zaa h5q
     clear h5l h5q
     have n1 : (T.pairs.length : Int) - 1 < 0 := by have := N0.out.2.1 (by simp); omega
     go_upto_region 25 with (first
      | (go_at_call 30; refine (zbg _).mono ?_; rintro e w' ⟨rfl, rfl⟩)
      | (go_at_call 179; refine (zar _ _).mono ?_; rintro e w' ⟨rfl, rfl⟩))
     go_quiet (fail)
     obtain ⟨W6, hW6⟩ : ∃ W6, W6 = W5.drewN nq := ⟨_, rfl⟩
     rw [<- hW6]
     have hb6 : Below W5.heap.size W5 W6 := by rw [hW6]; exact zae (Below.refl _ _) nq
     have hbx6 := Blk.below HBX5.out hb6 HBX5.out.lt
     have hq6 := Blk.below H5Q.out hb6 H5Q.out.lt
     have hl6 := Blk.below H5L.out hb6 (Blk.lt H5L.out)
     have hcu6 := Blk.below HCU5.out hb6 (Blk.lt HCU5.out)
     have ho6 := HO5.out.below hb6
     obtain ⟨_, p6, _, hr6⟩ := HC.out W6 ho6
     clear g0 g1 f1 f3 f7 y1 y2 y3 p5
     have g0 := zab hbx6 0 rfl
     have g1 := zab hbx6 1 rfl
     have f1 := zab hl6 1 rfl
     have f3 := zab hl6 3 rfl
     have f7 := zab hl6 7 rfl
     have y1 := zab hq6 1 rfl
     have y2 := zab hq6 2 rfl
     have y3 := zab hq6 3 rfl
     have z1 := hq6.frozen 1
     have z2 := hq6.frozen 2
     have z3 := hq6.frozen 3
     have HBX6 := zaa hbx6
     have HQ6 := zaa hq6
     have HL6 := zaa hl6
     have HCU6 := zaa hcu6
     have HO6 := zaa ho6
     clear hbx6 hq6 hl6 hcu6 ho6 hb6 hW6
     go_wp2
     go_ret
     have hoq : Only (· = q) W6 (((W6.setCell ⟨q, 1, none⟩ (.string ⟨#[]⟩)).setCell ⟨q, 2, none⟩ (.bool false)).setCell ⟨q, 3, none⟩ (.int .i64 st)) := ((Only.set1 _ _ _ _).set2 _ _).set2 _ _
     exact ⟨rfl, ((HQ6.out.set_ 1 _).set_ 2 _).set_ 3 _, Blk.only HCU6.out hoq (fun e => hqc e.symm), (HO6.out.mono fun y _ hy => .inl hy).trans (hoq.mono fun y _ hy => .inr hy)⟩
   . go_upto_region 22 with (first
       | (go_at_call 47; go_loud (
         refine (HM.out.seek rfl).mono ?_; rintro e w4 ⟨rfl, hcu4, ho4⟩
         have hbx4 := Blk.only HBX2.out ho4 (fun e => by have e' : w.heap.size = c := e; omega)
         have ho := (Only.of_below (fp := (· = c)) HB2.out).trans ho4
         obtain ⟨hl4, p4, hq4, hr4⟩ := HC.out w4 ho
         have b40 := zab hbx4 0 rfl
         have b41 := zab hbx4 1 rfl
         have bz4 := hbx4.frozen 0
         have bz5 := hbx4.frozen 1
         have l41 := zab hl4 1 rfl
         have HBX4 := zaa hbx4
         have HL4 := zaa hl4
         have HQ4 := zaa hq4
         have HR4 := zaa hr4
         have HCU4 := zaa hcu4
         have HO4 := zaa ho
         clear hbx4 hl4 hq4 hr4 hcu4 ho ho4 bc0 bc1 bz e1 e5 e6 p4
         unfold zao rK rV))
       | (go_at_call 213; go_loud (
         obtain ⟨W5, hW5⟩ : ∃ W5, W5 = (w4.setCell ⟨w.heap.size, 0, none⟩ (.string ByteArray.empty)).setCell ⟨w.heap.size, 1, none⟩ (.string ByteArray.empty) := ⟨_, rfl⟩
         have ho5 : Only (· = w.heap.size) w4 W5 := by rw [hW5]; exact (Only.set1 _ _ _ _).set2 _ _
         have hb5 : Below w.heap.size w4 W5 := ho5.to_below HO4.out.size fun x hx => by omega
         have hbx5 : Blk W5 w.heap.size 68 #[.string ByteArray.empty, .string ByteArray.empty] := by rw [hW5]; exact (HBX4.out.set_ 0 _).set_ 1 _
         have hcu5 := Blk.only HCU4.out ho5 (fun e => by have e' : c = w.heap.size := e; omega)
         have ho : Only (· = c) w W5 := HO4.out.trans' (ho5.mono (fq := (· = w.heap.size)) fun _ _ h => h) (fun y hy e => by have e' : y = w.heap.size := e; omega)
         rw [<- hW5]
         have hsk := HS.out W5 (HC.out W5 ho).2.2.2 k
         refine hsk.mono ?_; rintro e w5 ⟨rfl, hbk⟩
         have HBX5 := zaa (Blk.below hbx5 hbk hbx5.lt)
         have HCU5 := zaa (Blk.below hcu5 hbk (Blk.lt hcu5))
         have HO5 := zaa (ho.below hbk)
         clear hsk hb5 hbx5 hcu5 hW5 ho5 ho hbk b40 b41 bz4 bz5 l41)))
     obtain ⟨h5l, p5, h5q, h5r⟩ := HC.out w5 HO5.out
     have g0 := zab HBX5.out 0 rfl
     have g1 := zab HBX5.out 1 rfl
     have f1 := zab h5l 1 rfl
     have f3 := zab h5l 3 rfl
     have f7 := zab h5l 7 rfl
     have y1 := zab h5q 1 rfl
     have y2 := zab h5q 2 rfl
     have y3 := zab h5q 3 rfl
     have H5L := zaa h5l
     have H5Q := zaa h5q
     clear h5l h5q
     have n1 : (T.pairs.length : Int) <= (place k T.pairs : Int) := by have := N0.out.2.2.1 (by simp); omega
     have n2 : ¬ (place k T.pairs : Int) < 0 := by omega
     have n3 : ¬ (place k T.pairs : Int) < (T.pairs.length : Int) := by omega
     go_upto_region 25 with (first
      | (go_at_call 30; refine (zbg _).mono ?_; rintro e w' ⟨rfl, rfl⟩)
      | (go_at_call 179; refine (zar _ _).mono ?_; rintro e w' ⟨rfl, rfl⟩))
     go_quiet (fail)
     obtain ⟨W6, hW6⟩ : ∃ W6, W6 = w5.drewN nq := ⟨_, rfl⟩
     rw [<- hW6]
     have hb6 : Below w5.heap.size w5 W6 := by rw [hW6]; exact zae (Below.refl _ _) nq
     have hbx6 := Blk.below HBX5.out hb6 HBX5.out.lt
     have hq6 := Blk.below H5Q.out hb6 H5Q.out.lt
     have hl6 := Blk.below H5L.out hb6 (Blk.lt H5L.out)
     have hcu6 := Blk.below HCU5.out hb6 (Blk.lt HCU5.out)
     have ho6 := HO5.out.below hb6
     obtain ⟨_, p6, _, hr6⟩ := HC.out W6 ho6
     clear g0 g1 f1 f3 f7 y1 y2 y3 p5
     have g0 := zab hbx6 0 rfl
     have g1 := zab hbx6 1 rfl
     have f1 := zab hl6 1 rfl
     have f3 := zab hl6 3 rfl
     have f7 := zab hl6 7 rfl
     have y1 := zab hq6 1 rfl
     have y2 := zab hq6 2 rfl
     have y3 := zab hq6 3 rfl
     have z1 := hq6.frozen 1
     have z2 := hq6.frozen 2
     have z3 := hq6.frozen 3
     have HBX6 := zaa hbx6
     have HQ6 := zaa hq6
     have HL6 := zaa hl6
     have HCU6 := zaa hcu6
     have HO6 := zaa ho6
     clear hbx6 hq6 hl6 hcu6 ho6 hb6 hW6
     go_wp2
     go_ret
     have hoq : Only (· = q) W6 (((W6.setCell ⟨q, 1, none⟩ (.string ⟨#[]⟩)).setCell ⟨q, 2, none⟩ (.bool false)).setCell ⟨q, 3, none⟩ (.int .i64 st)) := ((Only.set1 _ _ _ _).set2 _ _).set2 _ _
     exact ⟨rfl, ((HQ6.out.set_ 1 _).set_ 2 _).set_ 3 _, Blk.only HCU6.out hoq (fun e => hqc e.symm), (HO6.out.mono fun y _ hy => .inl hy).trans (hoq.mono fun y _ hy => .inr hy)⟩
   . obtain ⟨rfl, hss⟩ := hlost (by omega)
     have hss' := hss.symm
     clear hss hlost
     subst hss'
     go_upto_region 22 with (first
      | (go_at_call 44; go_loud (
        refine (HM.out.next rfl).mono ?_; rintro e w4 ⟨rfl, hcu4, ho4⟩
        have hbx4 := Blk.only HBX2.out ho4 (fun e => by have e' : w.heap.size = c := e; omega)
        have ho := (Only.of_below (fp := (· = c)) HB2.out).trans ho4
        obtain ⟨hl4, p4, hq4, hr4⟩ := HC.out w4 ho
        have b40 := zab hbx4 0 rfl
        have b41 := zab hbx4 1 rfl
        have bz4 := hbx4.frozen 0
        have bz5 := hbx4.frozen 1
        have l41 := zab hl4 1 rfl
        have HBX4 := zaa hbx4
        have HL4 := zaa hl4
        have HQ4 := zaa hq4
        have HR4 := zaa hr4
        have HCU4 := zaa hcu4
        have HO4 := zaa ho
        clear hbx4 hl4 hq4 hr4 hcu4 ho ho4 bc0 bc1 bz e1 e5 e6 p4
        unfold zao rK rV)))
     obtain ⟨W5, hW5⟩ : ∃ W5, W5 = (w4.setCell ⟨w.heap.size, 0, none⟩ (.string ByteArray.empty)).setCell ⟨w.heap.size, 1, none⟩ (.string ByteArray.empty) := ⟨_, rfl⟩
     have ho5 : Only (· = w.heap.size) w4 W5 := by rw [hW5]; exact (Only.set1 _ _ _ _).set2 _ _
     have hb5 : Below w.heap.size w4 W5 := ho5.to_below HO4.out.size fun x hx => by omega
     have hbx5 : Blk W5 w.heap.size 68 #[.string ByteArray.empty, .string ByteArray.empty] := by rw [hW5]; exact (HBX4.out.set_ 0 _).set_ 1 _
     have hcu5 := Blk.only HCU4.out ho5 (fun e => by have e' : c = w.heap.size := e; omega)
     have ho : Only (· = c) w W5 := HO4.out.trans' (ho5.mono (fq := (· = w.heap.size)) fun _ _ h => h) (fun y hy e => by have e' : y = w.heap.size := e; omega)
     rw [<- hW5]
     have HBX5 := zaa hbx5
     have HCU5 := zaa hcu5
     have HO5 := zaa ho
     clear hb5 hbx5 hcu5 hW5 ho5 ho b40 b41 bz4 bz5 l41
     obtain ⟨h5l, p5, h5q, h5r⟩ := HC.out W5 HO5.out
     have g0 := zab HBX5.out 0 rfl
     have g1 := zab HBX5.out 1 rfl
     have f1 := zab h5l 1 rfl
     have f3 := zab h5l 3 rfl
     have f7 := zab h5l 7 rfl
     have y1 := zab h5q 1 rfl
     have y2 := zab h5q 2 rfl
     have y3 := zab h5q 3 rfl
     have H5L := zaa h5l
     have H5Q := zaa h5q
     clear h5l h5q
     obtain ⟨j, hj⟩ : ∃ j : Nat, j = place key T.pairs + 1 := ⟨_, rfl⟩
     have n1 : (place key T.pairs : Int) + 1 = (j : Int) := by omega
     rw [n1]
     have n2 : ¬ (j : Int) < 0 := by omega
     have n3 : ¬ (j : Int) < (T.pairs.length : Int) := by have := N0.out.2.2.2.1 (by simp); omega
     have n4 : (T.pairs.length : Int) <= (j : Int) := by omega
     clear n1 hj
     go_upto_region 25 with (first
      | (go_at_call 30; refine (zbg _).mono ?_; rintro e w' ⟨rfl, rfl⟩)
      | (go_at_call 179; refine (zar _ _).mono ?_; rintro e w' ⟨rfl, rfl⟩))
     go_quiet (fail)
     obtain ⟨W6, hW6⟩ : ∃ W6, W6 = W5.drewN nq := ⟨_, rfl⟩
     rw [<- hW6]
     have hb6 : Below W5.heap.size W5 W6 := by rw [hW6]; exact zae (Below.refl _ _) nq
     have hbx6 := Blk.below HBX5.out hb6 HBX5.out.lt
     have hq6 := Blk.below H5Q.out hb6 H5Q.out.lt
     have hl6 := Blk.below H5L.out hb6 (Blk.lt H5L.out)
     have hcu6 := Blk.below HCU5.out hb6 (Blk.lt HCU5.out)
     have ho6 := HO5.out.below hb6
     obtain ⟨_, p6, _, hr6⟩ := HC.out W6 ho6
     clear g0 g1 f1 f3 f7 y1 y2 y3 p5
     have g0 := zab hbx6 0 rfl
     have g1 := zab hbx6 1 rfl
     have f1 := zab hl6 1 rfl
     have f3 := zab hl6 3 rfl
     have f7 := zab hl6 7 rfl
     have y1 := zab hq6 1 rfl
     have y2 := zab hq6 2 rfl
     have y3 := zab hq6 3 rfl
     have z1 := hq6.frozen 1
     have z2 := hq6.frozen 2
     have z3 := hq6.frozen 3
     have HBX6 := zaa hbx6
     have HQ6 := zaa hq6
     have HL6 := zaa hl6
     have HCU6 := zaa hcu6
     have HO6 := zaa ho6
     clear hbx6 hq6 hl6 hcu6 ho6 hb6 hW6
     go_wp2
     go_ret
     have hoq : Only (· = q) W6 (((W6.setCell ⟨q, 1, none⟩ (.string ⟨#[]⟩)).setCell ⟨q, 2, none⟩ (.bool false)).setCell ⟨q, 3, none⟩ (.int .i64 st)) := ((Only.set1 _ _ _ _).set2 _ _).set2 _ _
     exact ⟨rfl, ((HQ6.out.set_ 1 _).set_ 2 _).set_ 3 _, Blk.only HCU6.out hoq (fun e => hqc e.symm), (HO6.out.mono fun y _ hy => .inl hy).trans (hoq.mono fun y _ hy => .inr hy)⟩
   . obtain ⟨rfl, hss⟩ := hlost (by omega)
     have hss' := hss.symm
     clear hss hlost
     subst hss'
     go_upto_region 22 with (first
      | (go_at_call 46; go_loud (
        refine (HM.out.prev rfl).mono ?_; rintro e w4 ⟨rfl, hcu4, ho4⟩
        have hbx4 := Blk.only HBX2.out ho4 (fun e => by have e' : w.heap.size = c := e; omega)
        have ho := (Only.of_below (fp := (· = c)) HB2.out).trans ho4
        obtain ⟨hl4, p4, hq4, hr4⟩ := HC.out w4 ho
        have b40 := zab hbx4 0 rfl
        have b41 := zab hbx4 1 rfl
        have bz4 := hbx4.frozen 0
        have bz5 := hbx4.frozen 1
        have l41 := zab hl4 1 rfl
        have HBX4 := zaa hbx4
        have HL4 := zaa hl4
        have HQ4 := zaa hq4
        have HR4 := zaa hr4
        have HCU4 := zaa hcu4
        have HO4 := zaa ho
        clear hbx4 hl4 hq4 hr4 hcu4 ho ho4 bc0 bc1 bz e1 e5 e6 p4
        unfold zao rK rV)))
     obtain ⟨W5, hW5⟩ : ∃ W5, W5 = (w4.setCell ⟨w.heap.size, 0, none⟩ (.string ByteArray.empty)).setCell ⟨w.heap.size, 1, none⟩ (.string ByteArray.empty) := ⟨_, rfl⟩
     have ho5 : Only (· = w.heap.size) w4 W5 := by rw [hW5]; exact (Only.set1 _ _ _ _).set2 _ _
     have hb5 : Below w.heap.size w4 W5 := ho5.to_below HO4.out.size fun x hx => by omega
     have hbx5 : Blk W5 w.heap.size 68 #[.string ByteArray.empty, .string ByteArray.empty] := by rw [hW5]; exact (HBX4.out.set_ 0 _).set_ 1 _
     have hcu5 := Blk.only HCU4.out ho5 (fun e => by have e' : c = w.heap.size := e; omega)
     have ho : Only (· = c) w W5 := HO4.out.trans' (ho5.mono (fq := (· = w.heap.size)) fun _ _ h => h) (fun y hy e => by have e' : y = w.heap.size := e; omega)
     rw [<- hW5]
     have HBX5 := zaa hbx5
     have HCU5 := zaa hcu5
     have HO5 := zaa ho
     clear hb5 hbx5 hcu5 hW5 ho5 ho b40 b41 bz4 bz5 l41
     obtain ⟨h5l, p5, h5q, h5r⟩ := HC.out W5 HO5.out
     have g0 := zab HBX5.out 0 rfl
     have g1 := zab HBX5.out 1 rfl
     have f1 := zab h5l 1 rfl
     have f3 := zab h5l 3 rfl
     have f7 := zab h5l 7 rfl
     have y1 := zab h5q 1 rfl
     have y2 := zab h5q 2 rfl
     have y3 := zab h5q 3 rfl
     have H5L := zaa h5l
     have H5Q := zaa h5q
     clear h5l h5q
     have n1 : (place key T.pairs : Int) - 1 < 0 := by have := N0.out.2.2.2.2 (by simp); omega
     go_upto_region 25 with (first
      | (go_at_call 30; refine (zbg _).mono ?_; rintro e w' ⟨rfl, rfl⟩)
      | (go_at_call 179; refine (zar _ _).mono ?_; rintro e w' ⟨rfl, rfl⟩))
     go_quiet (fail)
     obtain ⟨W6, hW6⟩ : ∃ W6, W6 = W5.drewN nq := ⟨_, rfl⟩
     rw [<- hW6]
     have hb6 : Below W5.heap.size W5 W6 := by rw [hW6]; exact zae (Below.refl _ _) nq
     have hbx6 := Blk.below HBX5.out hb6 HBX5.out.lt
     have hq6 := Blk.below H5Q.out hb6 H5Q.out.lt
     have hl6 := Blk.below H5L.out hb6 (Blk.lt H5L.out)
     have hcu6 := Blk.below HCU5.out hb6 (Blk.lt HCU5.out)
     have ho6 := HO5.out.below hb6
     obtain ⟨_, p6, _, hr6⟩ := HC.out W6 ho6
     clear g0 g1 f1 f3 f7 y1 y2 y3 p5
     have g0 := zab hbx6 0 rfl
     have g1 := zab hbx6 1 rfl
     have f1 := zab hl6 1 rfl
     have f3 := zab hl6 3 rfl
     have f7 := zab hl6 7 rfl
     have y1 := zab hq6 1 rfl
     have y2 := zab hq6 2 rfl
     have y3 := zab hq6 3 rfl
     have z1 := hq6.frozen 1
     have z2 := hq6.frozen 2
     have z3 := hq6.frozen 3
     have HBX6 := zaa hbx6
     have HQ6 := zaa hq6
     have HL6 := zaa hl6
     have HCU6 := zaa hcu6
     have HO6 := zaa ho6
     clear hbx6 hq6 hl6 hcu6 ho6 hb6 hW6
     go_wp2
     go_ret
     have hoq : Only (· = q) W6 (((W6.setCell ⟨q, 1, none⟩ (.string ⟨#[]⟩)).setCell ⟨q, 2, none⟩ (.bool false)).setCell ⟨q, 3, none⟩ (.int .i64 st)) := ((Only.set1 _ _ _ _).set2 _ _).set2 _ _
     exact ⟨rfl, ((HQ6.out.set_ 1 _).set_ 2 _).set_ 3 _, Blk.only HCU6.out hoq (fun e => hqc e.symm), (HO6.out.mono fun y _ hy => .inl hy).trans (hoq.mono fun y _ hy => .inr hy)⟩
 | some e =>
   obtain ⟨kk, vv⟩ := e
   obtain ⟨hks, j, hj1, jj⟩ := hgo.some (kk, vv) rfl
   have J := zaa jj
   have hj1' := zaa hj1
   clear jj
   have hpl := zl9 key T.pairs
   obtain ⟨hjl, _⟩ := List.getElem?_eq_some_iff.1 hj1
   have m0 : ¬ (j : Int) < 0 := by omega
   have m1 : (j : Int) < (T.pairs.length : Int) := by omega
   have m2 : (0 : Int) <= (j : Int) := by omega
   have hke := ztw hks
   have hkk : (kk.toList == kk.toList) = true := by simp
   have hvv : (vv.toList == vv.toList) = true := by simp
   clear hgo hks hj1
   rcases hh with rfl | rfl | rfl | rfl | rfl
   . go_upto_region 22 with (first
       | (go_at_call 43; go_loud (
         refine (HM.out.first rfl).mono ?_; rintro e w4 ⟨rfl, hcu4, ho4⟩
         have hbx4 := Blk.only HBX2.out ho4 (fun e => by have e' : w.heap.size = c := e; omega)
         have ho := (Only.of_below (fp := (· = c)) HB2.out).trans ho4
         obtain ⟨hl4, p4, hq4, hr4⟩ := HC.out w4 ho
         have b40 := zab hbx4 0 rfl
         have b41 := zab hbx4 1 rfl
         have bz4 := hbx4.frozen 0
         have bz5 := hbx4.frozen 1
         have l41 := zab hl4 1 rfl
         have HBX4 := zaa hbx4
         have HL4 := zaa hl4
         have HQ4 := zaa hq4
         have HR4 := zaa hr4
         have HCU4 := zaa hcu4
         have HO4 := zaa ho
         clear hbx4 hl4 hq4 hr4 hcu4 ho ho4 bc0 bc1 bz e1 e5 e6 p4
         unfold zao rK rV)))
     obtain ⟨W5, hW5⟩ : ∃ W5, W5 = (w4.setCell ⟨w.heap.size, 0, none⟩ (.string kk)).setCell ⟨w.heap.size, 1, none⟩ (.string vv) := ⟨_, rfl⟩
     have ho5 : Only (· = w.heap.size) w4 W5 := by rw [hW5]; exact (Only.set1 _ _ _ _).set2 _ _
     have hb5 : Below w.heap.size w4 W5 := ho5.to_below HO4.out.size fun x hx => by omega
     have hbx5 : Blk W5 w.heap.size 68 #[.string kk, .string vv] := by rw [hW5]; exact (HBX4.out.set_ 0 _).set_ 1 _
     have hcu5 := Blk.only HCU4.out ho5 (fun e => by have e' : c = w.heap.size := e; omega)
     have ho : Only (· = c) w W5 := HO4.out.trans' (ho5.mono (fq := (· = w.heap.size)) fun _ _ h => h) (fun y hy e => by have e' : y = w.heap.size := e; omega)
     rw [<- hW5]
     have HBX5 := zaa hbx5
     have HCU5 := zaa hcu5
     have HO5 := zaa ho
     clear hb5 hbx5 hcu5 hW5 ho5 ho b40 b41 bz4 bz5 l41
     obtain ⟨h5l, p5, h5q, h5r⟩ := HC.out W5 HO5.out
     have g0 := zab HBX5.out 0 rfl
     have g1 := zab HBX5.out 1 rfl
     have f1 := zab h5l 1 rfl
     have f3 := zab h5l 3 rfl
     have f7 := zab h5l 7 rfl
     have y1 := zab h5q 1 rfl
     have y2 := zab h5q 2 rfl
     have y3 := zab h5q 3 rfl
     have H5L := zaa h5l
     have H5Q := zaa h5q
     clear h5l h5q
     have hj : j = 0 := J.out.1 (by simp)
     subst hj
     have n2 : (0 : Int) < (T.pairs.length : Int) := by omega
     have n3 : ¬ T.pairs = [] := fun e => by rw [e] at n2; simp at n2
     have n4 : ¬ T.pairs.length = 0 := by omega
     go_upto_region 25 with (first
      | (go_at_call 30; refine (zbg _).mono ?_; rintro e w' ⟨rfl, rfl⟩)
      | (go_at_call 179; refine (zar _ _).mono ?_; rintro e w' ⟨rfl, rfl⟩))
     go_quiet (fail)
     obtain ⟨W6, hW6⟩ : ∃ W6, W6 = W5.drewN nq := ⟨_, rfl⟩
     rw [<- hW6]
     have hb6 : Below W5.heap.size W5 W6 := by rw [hW6]; exact zae (Below.refl _ _) nq
     have hbx6 := Blk.below HBX5.out hb6 HBX5.out.lt
     have hq6 := Blk.below H5Q.out hb6 H5Q.out.lt
     have hl6 := Blk.below H5L.out hb6 (Blk.lt H5L.out)
     have hcu6 := Blk.below HCU5.out hb6 (Blk.lt HCU5.out)
     have ho6 := HO5.out.below hb6
     obtain ⟨_, p6, _, hr6⟩ := HC.out W6 ho6
     clear g0 g1 f1 f3 f7 y1 y2 y3 p5
     have g0 := zab hbx6 0 rfl
     have g1 := zab hbx6 1 rfl
     have f1 := zab hl6 1 rfl
     have f3 := zab hl6 3 rfl
     have f7 := zab hl6 7 rfl
     have y1 := zab hq6 1 rfl
     have y2 := zab hq6 2 rfl
     have y3 := zab hq6 3 rfl
     have z1 := hq6.frozen 1
     have z2 := hq6.frozen 2
     have z3 := hq6.frozen 3
     obtain ⟨bs, hown6⟩ := hr6
     have hcells := (zb2 hown6 rfl).2.2 0 (kk, vv) hj1'.out
     obtain ⟨g, hAg, a0, a1⟩ := hcells
     subst hAg
     have hgq : ¬ g = q := fun e => by
      subst e
      obtain ⟨_, _, hv, _, _, hrow, _⟩ := zaf hown6
      obtain ⟨_, _, _, cur, hb, _⟩ := hrow g rfl
      exact Blk.ne_ hb hq6 (by decide) rfl
     have hgq' : ¬ q = g := fun e => hgq e.symm
     have HBX6 := zaa hbx6
     have HQ6 := zaa hq6
     have HL6 := zaa hl6
     have HCU6 := zaa hcu6
     have HO6 := zaa ho6
     clear hbx6 hq6 hl6 hcu6 ho6 hb6 hW6
     go_upto_region 40 with fail
     obtain ⟨W7, hW7⟩ : ∃ W7, W7 = ((((W6.setCell ⟨q, 1, none⟩ (.string ⟨#[]⟩)).setCell ⟨q, 2, none⟩ (.bool false)).setCell ⟨q, 3, none⟩ (.int .i64 st)).setCell ⟨q, 2, none⟩ (.bool true)).setCell ⟨q, 1, none⟩ (.string kk) := ⟨_, rfl⟩
     rw [<- hW7]
     have hoq : Only (· = q) W6 W7 := by rw [hW7]; exact ((((Only.set1 _ _ _ _).set2 _ _).set2 _ _).set2 _ _).set2 _ _
     have hq7 := ((((HQ6.out.set_ 1 (.string ⟨#[]⟩)).set_ 2 (.bool false)).set_ 3 (.int .i64 st)).set_ 2 (.bool true)).set_ 1 (.string kk)
     rw [<- hW7] at hq7
     have hbx7 := HBX6.out.only hoq (fun e => hnq e)
     have hl7 := Blk.only HL6.out hoq (fun e => hlq e)
     have a0' := (hoq.cell (p := ⟨g, _, none⟩) (World.block_lt_of_cell? W6 _ a0) (fun e => hgq e)).trans a0
     have a1' := (hoq.cell (p := ⟨g, _, none⟩) (World.block_lt_of_cell? W6 _ a1) (fun e => hgq e)).trans a1
     clear g0 g1 f1 f3 f7 y1 y2 y3 z1 z2 z3 a0 a1 p6
     have g0 := zab hbx7 0 rfl
     have g1 := zab hbx7 1 rfl
     have f1 := zab hl7 1 rfl
     have y1 : W7.cell? ⟨q, 1, none⟩ = some (.string kk) := zab hq7 1 rfl
     have HQ7 := zaa hq7
     have HOQ := zaa hoq
     clear hq7 hoq hbx7 hl7 hW7
     go_quiet (fail)
     go_wp2
     go_ret
     exact ⟨rfl, HQ7.out.drewN _, (Blk.only HCU6.out HOQ.out (fun e => hqc e.symm)).drewN _, ((HO6.out.mono fun y _ hy => .inl hy).trans (HOQ.out.mono fun y _ hy => .inr hy)).drewN _⟩
   . go_upto_region 22 with (first
       | (go_at_call 45; go_loud (
         refine (HM.out.last rfl).mono ?_; rintro e w4 ⟨rfl, hcu4, ho4⟩
         have hbx4 := Blk.only HBX2.out ho4 (fun e => by have e' : w.heap.size = c := e; omega)
         have ho := (Only.of_below (fp := (· = c)) HB2.out).trans ho4
         obtain ⟨hl4, p4, hq4, hr4⟩ := HC.out w4 ho
         have b40 := zab hbx4 0 rfl
         have b41 := zab hbx4 1 rfl
         have bz4 := hbx4.frozen 0
         have bz5 := hbx4.frozen 1
         have l41 := zab hl4 1 rfl
         have HBX4 := zaa hbx4
         have HL4 := zaa hl4
         have HQ4 := zaa hq4
         have HR4 := zaa hr4
         have HCU4 := zaa hcu4
         have HO4 := zaa ho
         clear hbx4 hl4 hq4 hr4 hcu4 ho ho4 bc0 bc1 bz e1 e5 e6 p4
         unfold zao rK rV)))
     obtain ⟨W5, hW5⟩ : ∃ W5, W5 = (w4.setCell ⟨w.heap.size, 0, none⟩ (.string kk)).setCell ⟨w.heap.size, 1, none⟩ (.string vv) := ⟨_, rfl⟩
     have ho5 : Only (· = w.heap.size) w4 W5 := by rw [hW5]; exact (Only.set1 _ _ _ _).set2 _ _
     have hb5 : Below w.heap.size w4 W5 := ho5.to_below HO4.out.size fun x hx => by omega
     have hbx5 : Blk W5 w.heap.size 68 #[.string kk, .string vv] := by rw [hW5]; exact (HBX4.out.set_ 0 _).set_ 1 _
     have hcu5 := Blk.only HCU4.out ho5 (fun e => by have e' : c = w.heap.size := e; omega)
     have ho : Only (· = c) w W5 := HO4.out.trans' (ho5.mono (fq := (· = w.heap.size)) fun _ _ h => h) (fun y hy e => by have e' : y = w.heap.size := e; omega)
     rw [<- hW5]
     have HBX5 := zaa hbx5
     have HCU5 := zaa hcu5
     have HO5 := zaa ho
     clear hb5 hbx5 hcu5 hW5 ho5 ho b40 b41 bz4 bz5 l41
     obtain ⟨h5l, p5, h5q, h5r⟩ := HC.out W5 HO5.out
     have g0 := zab HBX5.out 0 rfl
     have g1 := zab HBX5.out 1 rfl
     have f1 := zab h5l 1 rfl
     have f3 := zab h5l 3 rfl
     have f7 := zab h5l 7 rfl
     have y1 := zab h5q 1 rfl
     have y2 := zab h5q 2 rfl
     have y3 := zab h5q 3 rfl
     have H5L := zaa h5l
     have H5Q := zaa h5q
     clear h5l h5q
     have n1 : (T.pairs.length : Int) - 1 = (j : Int) := by have := J.out.2.1 (by simp); omega
     rw [n1]
     clear n1
     go_upto_region 25 with (first
      | (go_at_call 30; refine (zbg _).mono ?_; rintro e w' ⟨rfl, rfl⟩)
      | (go_at_call 179; refine (zar _ _).mono ?_; rintro e w' ⟨rfl, rfl⟩))
     go_quiet (fail)
     obtain ⟨W6, hW6⟩ : ∃ W6, W6 = W5.drewN nq := ⟨_, rfl⟩
     rw [<- hW6]
     have hb6 : Below W5.heap.size W5 W6 := by rw [hW6]; exact zae (Below.refl _ _) nq
     have hbx6 := Blk.below HBX5.out hb6 HBX5.out.lt
     have hq6 := Blk.below H5Q.out hb6 H5Q.out.lt
     have hl6 := Blk.below H5L.out hb6 (Blk.lt H5L.out)
     have hcu6 := Blk.below HCU5.out hb6 (Blk.lt HCU5.out)
     have ho6 := HO5.out.below hb6
     obtain ⟨_, p6, _, hr6⟩ := HC.out W6 ho6
     clear g0 g1 f1 f3 f7 y1 y2 y3 p5
     have g0 := zab hbx6 0 rfl
     have g1 := zab hbx6 1 rfl
     have f1 := zab hl6 1 rfl
     have f3 := zab hl6 3 rfl
     have f7 := zab hl6 7 rfl
     have y1 := zab hq6 1 rfl
     have y2 := zab hq6 2 rfl
     have y3 := zab hq6 3 rfl
     have z1 := hq6.frozen 1
     have z2 := hq6.frozen 2
     have z3 := hq6.frozen 3
     obtain ⟨bs, hown6⟩ := hr6
     have hcells := (zb2 hown6 rfl).2.2 j (kk, vv) hj1'.out
     obtain ⟨g, hAg, a0, a1⟩ := hcells
     subst hAg
     have hgq : ¬ g = q := fun e => by
      subst e
      obtain ⟨_, _, hv, _, _, hrow, _⟩ := zaf hown6
      obtain ⟨_, _, _, cur, hb, _⟩ := hrow g rfl
      exact Blk.ne_ hb hq6 (by decide) rfl
     have hgq' : ¬ q = g := fun e => hgq e.symm
     have HBX6 := zaa hbx6
     have HQ6 := zaa hq6
     have HL6 := zaa hl6
     have HCU6 := zaa hcu6
     have HO6 := zaa ho6
     clear hbx6 hq6 hl6 hcu6 ho6 hb6 hW6
     go_upto_region 40 with fail
     obtain ⟨W7, hW7⟩ : ∃ W7, W7 = ((((W6.setCell ⟨q, 1, none⟩ (.string ⟨#[]⟩)).setCell ⟨q, 2, none⟩ (.bool false)).setCell ⟨q, 3, none⟩ (.int .i64 st)).setCell ⟨q, 2, none⟩ (.bool true)).setCell ⟨q, 1, none⟩ (.string kk) := ⟨_, rfl⟩
     rw [<- hW7]
     have hoq : Only (· = q) W6 W7 := by rw [hW7]; exact ((((Only.set1 _ _ _ _).set2 _ _).set2 _ _).set2 _ _).set2 _ _
     have hq7 := ((((HQ6.out.set_ 1 (.string ⟨#[]⟩)).set_ 2 (.bool false)).set_ 3 (.int .i64 st)).set_ 2 (.bool true)).set_ 1 (.string kk)
     rw [<- hW7] at hq7
     have hbx7 := HBX6.out.only hoq (fun e => hnq e)
     have hl7 := Blk.only HL6.out hoq (fun e => hlq e)
     have a0' := (hoq.cell (p := ⟨g, _, none⟩) (World.block_lt_of_cell? W6 _ a0) (fun e => hgq e)).trans a0
     have a1' := (hoq.cell (p := ⟨g, _, none⟩) (World.block_lt_of_cell? W6 _ a1) (fun e => hgq e)).trans a1
     clear g0 g1 f1 f3 f7 y1 y2 y3 z1 z2 z3 a0 a1 p6
     have g0 := zab hbx7 0 rfl
     have g1 := zab hbx7 1 rfl
     have f1 := zab hl7 1 rfl
     have y1 : W7.cell? ⟨q, 1, none⟩ = some (.string kk) := zab hq7 1 rfl
     have HQ7 := zaa hq7
     have HOQ := zaa hoq
     clear hq7 hoq hbx7 hl7 hW7
     go_quiet (fail)
     go_wp2
     go_ret
     exact ⟨rfl, HQ7.out.drewN _, (Blk.only HCU6.out HOQ.out (fun e => hqc e.symm)).drewN _, ((HO6.out.mono fun y _ hy => .inl hy).trans (HOQ.out.mono fun y _ hy => .inr hy)).drewN _⟩
   . go_upto_region 22 with (first
       | (go_at_call 47; go_loud (
         refine (HM.out.seek rfl).mono ?_; rintro e w4 ⟨rfl, hcu4, ho4⟩
         have hbx4 := Blk.only HBX2.out ho4 (fun e => by have e' : w.heap.size = c := e; omega)
         have ho := (Only.of_below (fp := (· = c)) HB2.out).trans ho4
         obtain ⟨hl4, p4, hq4, hr4⟩ := HC.out w4 ho
         have b40 := zab hbx4 0 rfl
         have b41 := zab hbx4 1 rfl
         have bz4 := hbx4.frozen 0
         have bz5 := hbx4.frozen 1
         have l41 := zab hl4 1 rfl
         have HBX4 := zaa hbx4
         have HL4 := zaa hl4
         have HQ4 := zaa hq4
         have HR4 := zaa hr4
         have HCU4 := zaa hcu4
         have HO4 := zaa ho
         clear hbx4 hl4 hq4 hr4 hcu4 ho ho4 bc0 bc1 bz e1 e5 e6 p4
         unfold zao rK rV))
       | (go_at_call 213; go_loud (
         obtain ⟨W5, hW5⟩ : ∃ W5, W5 = (w4.setCell ⟨w.heap.size, 0, none⟩ (.string kk)).setCell ⟨w.heap.size, 1, none⟩ (.string vv) := ⟨_, rfl⟩
         have ho5 : Only (· = w.heap.size) w4 W5 := by rw [hW5]; exact (Only.set1 _ _ _ _).set2 _ _
         have hb5 : Below w.heap.size w4 W5 := ho5.to_below HO4.out.size fun x hx => by omega
         have hbx5 : Blk W5 w.heap.size 68 #[.string kk, .string vv] := by rw [hW5]; exact (HBX4.out.set_ 0 _).set_ 1 _
         have hcu5 := Blk.only HCU4.out ho5 (fun e => by have e' : c = w.heap.size := e; omega)
         have ho : Only (· = c) w W5 := HO4.out.trans' (ho5.mono (fq := (· = w.heap.size)) fun _ _ h => h) (fun y hy e => by have e' : y = w.heap.size := e; omega)
         rw [<- hW5]
         have hsk := HS.out W5 (HC.out W5 ho).2.2.2 k
         refine hsk.mono ?_; rintro e w5 ⟨rfl, hbk⟩
         have HBX5 := zaa (Blk.below hbx5 hbk hbx5.lt)
         have HCU5 := zaa (Blk.below hcu5 hbk (Blk.lt hcu5))
         have HO5 := zaa (ho.below hbk)
         clear hsk hb5 hbx5 hcu5 hW5 ho5 ho hbk b40 b41 bz4 bz5 l41)))
     obtain ⟨h5l, p5, h5q, h5r⟩ := HC.out w5 HO5.out
     have g0 := zab HBX5.out 0 rfl
     have g1 := zab HBX5.out 1 rfl
     have f1 := zab h5l 1 rfl
     have f3 := zab h5l 3 rfl
     have f7 := zab h5l 7 rfl
     have y1 := zab h5q 1 rfl
     have y2 := zab h5q 2 rfl
     have y3 := zab h5q 3 rfl
     have H5L := zaa h5l
     have H5Q := zaa h5q
     clear h5l h5q
     have hj : j = place k T.pairs := J.out.2.2.1 (by simp)
     rw [<- hj]
     clear hj
     go_upto_region 25 with (first
      | (go_at_call 30; refine (zbg _).mono ?_; rintro e w' ⟨rfl, rfl⟩)
      | (go_at_call 179; refine (zar _ _).mono ?_; rintro e w' ⟨rfl, rfl⟩))
     go_quiet (fail)
     obtain ⟨W6, hW6⟩ : ∃ W6, W6 = w5.drewN nq := ⟨_, rfl⟩
     rw [<- hW6]
     have hb6 : Below w5.heap.size w5 W6 := by rw [hW6]; exact zae (Below.refl _ _) nq
     have hbx6 := Blk.below HBX5.out hb6 HBX5.out.lt
     have hq6 := Blk.below H5Q.out hb6 H5Q.out.lt
     have hl6 := Blk.below H5L.out hb6 (Blk.lt H5L.out)
     have hcu6 := Blk.below HCU5.out hb6 (Blk.lt HCU5.out)
     have ho6 := HO5.out.below hb6
     obtain ⟨_, p6, _, hr6⟩ := HC.out W6 ho6
     clear g0 g1 f1 f3 f7 y1 y2 y3 p5
     have g0 := zab hbx6 0 rfl
     have g1 := zab hbx6 1 rfl
     have f1 := zab hl6 1 rfl
     have f3 := zab hl6 3 rfl
     have f7 := zab hl6 7 rfl
     have y1 := zab hq6 1 rfl
     have y2 := zab hq6 2 rfl
     have y3 := zab hq6 3 rfl
     have z1 := hq6.frozen 1
     have z2 := hq6.frozen 2
     have z3 := hq6.frozen 3
     obtain ⟨bs, hown6⟩ := hr6
     have hcells := (zb2 hown6 rfl).2.2 j (kk, vv) hj1'.out
     obtain ⟨g, hAg, a0, a1⟩ := hcells
     subst hAg
     have hgq : ¬ g = q := fun e => by
      subst e
      obtain ⟨_, _, hv, _, _, hrow, _⟩ := zaf hown6
      obtain ⟨_, _, _, cur, hb, _⟩ := hrow g rfl
      exact Blk.ne_ hb hq6 (by decide) rfl
     have hgq' : ¬ q = g := fun e => hgq e.symm
     have HBX6 := zaa hbx6
     have HQ6 := zaa hq6
     have HL6 := zaa hl6
     have HCU6 := zaa hcu6
     have HO6 := zaa ho6
     clear hbx6 hq6 hl6 hcu6 ho6 hb6 hW6
     go_upto_region 40 with fail
     obtain ⟨W7, hW7⟩ : ∃ W7, W7 = ((((W6.setCell ⟨q, 1, none⟩ (.string ⟨#[]⟩)).setCell ⟨q, 2, none⟩ (.bool false)).setCell ⟨q, 3, none⟩ (.int .i64 st)).setCell ⟨q, 2, none⟩ (.bool true)).setCell ⟨q, 1, none⟩ (.string kk) := ⟨_, rfl⟩
     rw [<- hW7]
     have hoq : Only (· = q) W6 W7 := by rw [hW7]; exact ((((Only.set1 _ _ _ _).set2 _ _).set2 _ _).set2 _ _).set2 _ _
     have hq7 := ((((HQ6.out.set_ 1 (.string ⟨#[]⟩)).set_ 2 (.bool false)).set_ 3 (.int .i64 st)).set_ 2 (.bool true)).set_ 1 (.string kk)
     rw [<- hW7] at hq7
     have hbx7 := HBX6.out.only hoq (fun e => hnq e)
     have hl7 := Blk.only HL6.out hoq (fun e => hlq e)
     have a0' := (hoq.cell (p := ⟨g, _, none⟩) (World.block_lt_of_cell? W6 _ a0) (fun e => hgq e)).trans a0
     have a1' := (hoq.cell (p := ⟨g, _, none⟩) (World.block_lt_of_cell? W6 _ a1) (fun e => hgq e)).trans a1
     clear g0 g1 f1 f3 f7 y1 y2 y3 z1 z2 z3 a0 a1 p6
     have g0 := zab hbx7 0 rfl
     have g1 := zab hbx7 1 rfl
     have f1 := zab hl7 1 rfl
     have y1 : W7.cell? ⟨q, 1, none⟩ = some (.string kk) := zab hq7 1 rfl
     have HQ7 := zaa hq7
     have HOQ := zaa hoq
     clear hq7 hoq hbx7 hl7 hW7
     go_quiet (fail)
     go_wp2
     go_ret
     exact ⟨rfl, HQ7.out.drewN _, (Blk.only HCU6.out HOQ.out (fun e => hqc e.symm)).drewN _, ((HO6.out.mono fun y _ hy => .inl hy).trans (HOQ.out.mono fun y _ hy => .inr hy)).drewN _⟩
   . obtain ⟨rfl, hss⟩ := hlost (by omega)
     have hss' := hss.symm
     clear hss hlost
     subst hss'
     go_upto_region 22 with (first
      | (go_at_call 44; go_loud (
        refine (HM.out.next rfl).mono ?_; rintro e w4 ⟨rfl, hcu4, ho4⟩
        have hbx4 := Blk.only HBX2.out ho4 (fun e => by have e' : w.heap.size = c := e; omega)
        have ho := (Only.of_below (fp := (· = c)) HB2.out).trans ho4
        obtain ⟨hl4, p4, hq4, hr4⟩ := HC.out w4 ho
        have b40 := zab hbx4 0 rfl
        have b41 := zab hbx4 1 rfl
        have bz4 := hbx4.frozen 0
        have bz5 := hbx4.frozen 1
        have l41 := zab hl4 1 rfl
        have HBX4 := zaa hbx4
        have HL4 := zaa hl4
        have HQ4 := zaa hq4
        have HR4 := zaa hr4
        have HCU4 := zaa hcu4
        have HO4 := zaa ho
        clear hbx4 hl4 hq4 hr4 hcu4 ho ho4 bc0 bc1 bz e1 e5 e6 p4
        unfold zao rK rV)))
     obtain ⟨W5, hW5⟩ : ∃ W5, W5 = (w4.setCell ⟨w.heap.size, 0, none⟩ (.string kk)).setCell ⟨w.heap.size, 1, none⟩ (.string vv) := ⟨_, rfl⟩
     have ho5 : Only (· = w.heap.size) w4 W5 := by rw [hW5]; exact (Only.set1 _ _ _ _).set2 _ _
     have hb5 : Below w.heap.size w4 W5 := ho5.to_below HO4.out.size fun x hx => by omega
     have hbx5 : Blk W5 w.heap.size 68 #[.string kk, .string vv] := by rw [hW5]; exact (HBX4.out.set_ 0 _).set_ 1 _
     have hcu5 := Blk.only HCU4.out ho5 (fun e => by have e' : c = w.heap.size := e; omega)
     have ho : Only (· = c) w W5 := HO4.out.trans' (ho5.mono (fq := (· = w.heap.size)) fun _ _ h => h) (fun y hy e => by have e' : y = w.heap.size := e; omega)
     rw [<- hW5]
     have HBX5 := zaa hbx5
     have HCU5 := zaa hcu5
     have HO5 := zaa ho
     clear hb5 hbx5 hcu5 hW5 ho5 ho b40 b41 bz4 bz5 l41
     obtain ⟨h5l, p5, h5q, h5r⟩ := HC.out W5 HO5.out
     have g0 := zab HBX5.out 0 rfl
     have g1 := zab HBX5.out 1 rfl
     have f1 := zab h5l 1 rfl
     have f3 := zab h5l 3 rfl
     have f7 := zab h5l 7 rfl
     have y1 := zab h5q 1 rfl
     have y2 := zab h5q 2 rfl
     have y3 := zab h5q 3 rfl
     have H5L := zaa h5l
     have H5Q := zaa h5q
     clear h5l h5q
     have n1 : (place key T.pairs : Int) + 1 = (j : Int) := by have := J.out.2.2.2.1 (by simp); omega
     rw [n1]
     clear n1
     go_upto_region 25 with (first
      | (go_at_call 30; refine (zbg _).mono ?_; rintro e w' ⟨rfl, rfl⟩)
      | (go_at_call 179; refine (zar _ _).mono ?_; rintro e w' ⟨rfl, rfl⟩))
     go_quiet (fail)
     obtain ⟨W6, hW6⟩ : ∃ W6, W6 = W5.drewN nq := ⟨_, rfl⟩
     rw [<- hW6]
     have hb6 : Below W5.heap.size W5 W6 := by rw [hW6]; exact zae (Below.refl _ _) nq
     have hbx6 := Blk.below HBX5.out hb6 HBX5.out.lt
     have hq6 := Blk.below H5Q.out hb6 H5Q.out.lt
     have hl6 := Blk.below H5L.out hb6 (Blk.lt H5L.out)
     have hcu6 := Blk.below HCU5.out hb6 (Blk.lt HCU5.out)
     have ho6 := HO5.out.below hb6
     obtain ⟨_, p6, _, hr6⟩ := HC.out W6 ho6
     clear g0 g1 f1 f3 f7 y1 y2 y3 p5
     have g0 := zab hbx6 0 rfl
     have g1 := zab hbx6 1 rfl
     have f1 := zab hl6 1 rfl
     have f3 := zab hl6 3 rfl
     have f7 := zab hl6 7 rfl
     have y1 := zab hq6 1 rfl
     have y2 := zab hq6 2 rfl
     have y3 := zab hq6 3 rfl
     have z1 := hq6.frozen 1
     have z2 := hq6.frozen 2
     have z3 := hq6.frozen 3
     obtain ⟨bs, hown6⟩ := hr6
     have hcells := (zb2 hown6 rfl).2.2 j (kk, vv) hj1'.out
     obtain ⟨g, hAg, a0, a1⟩ := hcells
     subst hAg
     have hgq : ¬ g = q := fun e => by
      subst e
      obtain ⟨_, _, hv, _, _, hrow, _⟩ := zaf hown6
      obtain ⟨_, _, _, cur, hb, _⟩ := hrow g rfl
      exact Blk.ne_ hb hq6 (by decide) rfl
     have hgq' : ¬ q = g := fun e => hgq e.symm
     have HBX6 := zaa hbx6
     have HQ6 := zaa hq6
     have HL6 := zaa hl6
     have HCU6 := zaa hcu6
     have HO6 := zaa ho6
     clear hbx6 hq6 hl6 hcu6 ho6 hb6 hW6
     go_upto_region 40 with fail
     obtain ⟨W7, hW7⟩ : ∃ W7, W7 = ((((W6.setCell ⟨q, 1, none⟩ (.string ⟨#[]⟩)).setCell ⟨q, 2, none⟩ (.bool false)).setCell ⟨q, 3, none⟩ (.int .i64 st)).setCell ⟨q, 2, none⟩ (.bool true)).setCell ⟨q, 1, none⟩ (.string kk) := ⟨_, rfl⟩
     rw [<- hW7]
     have hoq : Only (· = q) W6 W7 := by rw [hW7]; exact ((((Only.set1 _ _ _ _).set2 _ _).set2 _ _).set2 _ _).set2 _ _
     have hq7 := ((((HQ6.out.set_ 1 (.string ⟨#[]⟩)).set_ 2 (.bool false)).set_ 3 (.int .i64 st)).set_ 2 (.bool true)).set_ 1 (.string kk)
     rw [<- hW7] at hq7
     have hbx7 := HBX6.out.only hoq (fun e => hnq e)
     have hl7 := Blk.only HL6.out hoq (fun e => hlq e)
     have a0' := (hoq.cell (p := ⟨g, _, none⟩) (World.block_lt_of_cell? W6 _ a0) (fun e => hgq e)).trans a0
     have a1' := (hoq.cell (p := ⟨g, _, none⟩) (World.block_lt_of_cell? W6 _ a1) (fun e => hgq e)).trans a1
     clear g0 g1 f1 f3 f7 y1 y2 y3 z1 z2 z3 a0 a1 p6
     have g0 := zab hbx7 0 rfl
     have g1 := zab hbx7 1 rfl
     have f1 := zab hl7 1 rfl
     have y1 : W7.cell? ⟨q, 1, none⟩ = some (.string kk) := zab hq7 1 rfl
     have HQ7 := zaa hq7
     have HOQ := zaa hoq
     clear hq7 hoq hbx7 hl7 hW7
     go_quiet (fail)
     go_wp2
     go_ret
     exact ⟨rfl, HQ7.out.drewN _, (Blk.only HCU6.out HOQ.out (fun e => hqc e.symm)).drewN _, ((HO6.out.mono fun y _ hy => .inl hy).trans (HOQ.out.mono fun y _ hy => .inr hy)).drewN _⟩
   . obtain ⟨rfl, hss⟩ := hlost (by omega)
     have hss' := hss.symm
     clear hss hlost
     subst hss'
     go_upto_region 22 with (first
      | (go_at_call 46; go_loud (
        refine (HM.out.prev rfl).mono ?_; rintro e w4 ⟨rfl, hcu4, ho4⟩
        have hbx4 := Blk.only HBX2.out ho4 (fun e => by have e' : w.heap.size = c := e; omega)
        have ho := (Only.of_below (fp := (· = c)) HB2.out).trans ho4
        obtain ⟨hl4, p4, hq4, hr4⟩ := HC.out w4 ho
        have b40 := zab hbx4 0 rfl
        have b41 := zab hbx4 1 rfl
        have bz4 := hbx4.frozen 0
        have bz5 := hbx4.frozen 1
        have l41 := zab hl4 1 rfl
        have HBX4 := zaa hbx4
        have HL4 := zaa hl4
        have HQ4 := zaa hq4
        have HR4 := zaa hr4
        have HCU4 := zaa hcu4
        have HO4 := zaa ho
        clear hbx4 hl4 hq4 hr4 hcu4 ho ho4 bc0 bc1 bz e1 e5 e6 p4
        unfold zao rK rV)))
     obtain ⟨W5, hW5⟩ : ∃ W5, W5 = (w4.setCell ⟨w.heap.size, 0, none⟩ (.string kk)).setCell ⟨w.heap.size, 1, none⟩ (.string vv) := ⟨_, rfl⟩
     have ho5 : Only (· = w.heap.size) w4 W5 := by rw [hW5]; exact (Only.set1 _ _ _ _).set2 _ _
     have hb5 : Below w.heap.size w4 W5 := ho5.to_below HO4.out.size fun x hx => by omega
     have hbx5 : Blk W5 w.heap.size 68 #[.string kk, .string vv] := by rw [hW5]; exact (HBX4.out.set_ 0 _).set_ 1 _
     have hcu5 := Blk.only HCU4.out ho5 (fun e => by have e' : c = w.heap.size := e; omega)
     have ho : Only (· = c) w W5 := HO4.out.trans' (ho5.mono (fq := (· = w.heap.size)) fun _ _ h => h) (fun y hy e => by have e' : y = w.heap.size := e; omega)
     rw [<- hW5]
     have HBX5 := zaa hbx5
     have HCU5 := zaa hcu5
     have HO5 := zaa ho
     clear hb5 hbx5 hcu5 hW5 ho5 ho b40 b41 bz4 bz5 l41
     obtain ⟨h5l, p5, h5q, h5r⟩ := HC.out W5 HO5.out
     have g0 := zab HBX5.out 0 rfl
     have g1 := zab HBX5.out 1 rfl
     have f1 := zab h5l 1 rfl
     have f3 := zab h5l 3 rfl
     have f7 := zab h5l 7 rfl
     have y1 := zab h5q 1 rfl
     have y2 := zab h5q 2 rfl
     have y3 := zab h5q 3 rfl
     have H5L := zaa h5l
     have H5Q := zaa h5q
     clear h5l h5q
     have n1 : (place key T.pairs : Int) - 1 = (j : Int) := by have := J.out.2.2.2.2 (by simp); omega
     rw [n1]
     clear n1
     go_upto_region 25 with (first
      | (go_at_call 30; refine (zbg _).mono ?_; rintro e w' ⟨rfl, rfl⟩)
      | (go_at_call 179; refine (zar _ _).mono ?_; rintro e w' ⟨rfl, rfl⟩))
     go_quiet (fail)
     obtain ⟨W6, hW6⟩ : ∃ W6, W6 = W5.drewN nq := ⟨_, rfl⟩
     rw [<- hW6]
     have hb6 : Below W5.heap.size W5 W6 := by rw [hW6]; exact zae (Below.refl _ _) nq
     have hbx6 := Blk.below HBX5.out hb6 HBX5.out.lt
     have hq6 := Blk.below H5Q.out hb6 H5Q.out.lt
     have hl6 := Blk.below H5L.out hb6 (Blk.lt H5L.out)
     have hcu6 := Blk.below HCU5.out hb6 (Blk.lt HCU5.out)
     have ho6 := HO5.out.below hb6
     obtain ⟨_, p6, _, hr6⟩ := HC.out W6 ho6
     clear g0 g1 f1 f3 f7 y1 y2 y3 p5
     have g0 := zab hbx6 0 rfl
     have g1 := zab hbx6 1 rfl
     have f1 := zab hl6 1 rfl
     have f3 := zab hl6 3 rfl
     have f7 := zab hl6 7 rfl
     have y1 := zab hq6 1 rfl
     have y2 := zab hq6 2 rfl
     have y3 := zab hq6 3 rfl
     have z1 := hq6.frozen 1
     have z2 := hq6.frozen 2
     have z3 := hq6.frozen 3
     obtain ⟨bs, hown6⟩ := hr6
     have hcells := (zb2 hown6 rfl).2.2 j (kk, vv) hj1'.out
     obtain ⟨g, hAg, a0, a1⟩ := hcells
     subst hAg
     have hgq : ¬ g = q := fun e => by
      subst e
      obtain ⟨_, _, hv, _, _, hrow, _⟩ := zaf hown6
      obtain ⟨_, _, _, cur, hb, _⟩ := hrow g rfl
      exact Blk.ne_ hb hq6 (by decide) rfl
     have hgq' : ¬ q = g := fun e => hgq e.symm
     have HBX6 := zaa hbx6
     have HQ6 := zaa hq6
     have HL6 := zaa hl6
     have HCU6 := zaa hcu6
     have HO6 := zaa ho6
     clear hbx6 hq6 hl6 hcu6 ho6 hb6 hW6
     go_upto_region 40 with fail
     obtain ⟨W7, hW7⟩ : ∃ W7, W7 = ((((W6.setCell ⟨q, 1, none⟩ (.string ⟨#[]⟩)).setCell ⟨q, 2, none⟩ (.bool false)).setCell ⟨q, 3, none⟩ (.int .i64 st)).setCell ⟨q, 2, none⟩ (.bool true)).setCell ⟨q, 1, none⟩ (.string kk) := ⟨_, rfl⟩
     rw [<- hW7]
     have hoq : Only (· = q) W6 W7 := by rw [hW7]; exact ((((Only.set1 _ _ _ _).set2 _ _).set2 _ _).set2 _ _).set2 _ _
     have hq7 := ((((HQ6.out.set_ 1 (.string ⟨#[]⟩)).set_ 2 (.bool false)).set_ 3 (.int .i64 st)).set_ 2 (.bool true)).set_ 1 (.string kk)
     rw [<- hW7] at hq7
     have hbx7 := HBX6.out.only hoq (fun e => hnq e)
     have hl7 := Blk.only HL6.out hoq (fun e => hlq e)
     have a0' := (hoq.cell (p := ⟨g, _, none⟩) (World.block_lt_of_cell? W6 _ a0) (fun e => hgq e)).trans a0
     have a1' := (hoq.cell (p := ⟨g, _, none⟩) (World.block_lt_of_cell? W6 _ a1) (fun e => hgq e)).trans a1
     clear g0 g1 f1 f3 f7 y1 y2 y3 z1 z2 z3 a0 a1 p6
     have g0 := zab hbx7 0 rfl
     have g1 := zab hbx7 1 rfl
     have f1 := zab hl7 1 rfl
     have y1 : W7.cell? ⟨q, 1, none⟩ = some (.string kk) := zab hq7 1 rfl
     have HQ7 := zaa hq7
     have HOQ := zaa hoq
     clear hq7 hoq hbx7 hl7 hW7
     go_quiet (fail)
     go_wp2
     go_ret
     exact ⟨rfl, HQ7.out.drewN _, (Blk.only HCU6.out HOQ.out (fun e => hqc e.symm)).drewN _, ((HO6.out.mono fun y _ hy => .inl hy).trans (HOQ.out.mono fun y _ hy => .inr hy)).drewN _⟩
end
end Go.Proofs.YtemondlgcmpbbaaGreatDoor
