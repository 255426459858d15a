/- Node.Join of two branches. -/
import Derived.Test.YtemondlgcmpbbaaGreatDoorMX16
namespace Go.Proofs.YtemondlgcmpbbaaGreatDoor
open Go.RowKit
set_option maxRecDepth 100000
theorem zq4 {w : World} {g : Nat} {T : TypeId} {x y : Value} (h : Blk w g T #[x, y]) : Reads w w.heap.size 2 (some ⟨g, 0, none⟩) 1 [x, y] := by
 refine ⟨rfl, fun _ => ⟨_, rfl, h.lt, fun j u hu => ?_⟩⟩
 rw [Addr.add_lit, h.cell]
 simpa using hu
theorem zgx {K : Type} : ∀ (es es' : List (Str × K)) (bs bs' : List Nat), bs.length = es.length -> kcells (es ++ es') (bs ++ bs') = kcells es bs ++ kcells es' bs'
 | [], _, [], _, _ => rfl
 | [], _, _ :: _, _, h => by simp at h
 | _ :: _, _, [], _, h => by simp at h
 | e :: es, es', b :: bs, bs', h => by simp only [List.cons_append, kcells]; rw [zgx es es' bs bs' (by simpa using h)]
theorem znq {K : Type} (es1 es2 : List (Str × K)) (bs1 bs2 : List Nat) (k : Str) (h1 : bs1.length = es1.length) (h2 : bs2.length = es2.length) (hp : 0 < bs2.length) :
   kcells es1 bs1 ++ [.string k, P bs2[0]] ++ kcells (es2.drop 1) (bs2.drop 1) = kcells (es1 ++ rekey k es2) (bs1 ++ bs2) := by
 rw [zgx _ _ _ _ h1, List.append_assoc]
 congr 1
 cases bs2 with
 | nil => simp at hp
 | cons b bs2 =>
   cases es2 with
   | nil => simp at h2
   | cons e es2 => simp [rekey, kcells]
set_option maxHeartbeats 6400000 in
theorem zpd {K : Type} (es1 es2 : List (Str × K)) (bs1 bs2 : List Nat) (hb1 : bs1.length = es1.length) (hb2 : bs2.length = es2.length) (k : Str) (b1 blk1 gen1 c1 d1 b2 blk2 gen2 c2 d2 : Nat) (f1 f2 : Bool) (A1 B1 A2 B2 : Option Addr) (w : World)
   (hn1 : NodeIs w b1 blk1 gen1 f1 B1 0 d1 [] A1 es1.length c1 (kcells es1 bs1)) (hn2 : NodeIs w b2 blk2 gen2 f2 B2 0 d2 [] A2 es2.length c2 (kcells es2 bs2)) (hl1 : es1.length <= 400) (hl2 : es2.length <= 400) (hp1 : 1 <= es1.length) (hp2 : 1 <= es2.length) :
   Calls Tryz.prog 162 #[P b1, .agg #[.string k, P b2]] w fun e w' => ∃ b' A1 c1 A2 c2, e = .returned (P b') /\ Blk w' b' 137 #[.int .i64 0, .int .u32 0, .bool true, .slice A1 0 c1, .slice A2 (es1.length + es2.length) c2] /\
    w'.ownsRow w.heap.size 68 2 (.slice A1 0 c1) 0 [] /\ w'.ownsRow w.heap.size 139 2 (.slice A2 (es1.length + es2.length) c2) (es1.length + es2.length) (kcells (es1 ++ rekey k es2) (bs1 ++ bs2)) /\ w.heap.size <= b' /\ Below w.heap.size w w' := by
 obtain ⟨i0, hi0, hz0, hz1, hz2⟩ := info_parts zec
 have hbx : Blk (w.alloc (.cells #[.string k, P b2] 139)) w.heap.size 139 #[.string k, P b2] := Blk.new w _ _
 have hk0 : Keep w (w.alloc (.cells #[.string k, P b2] 139)) := Keep.alloc _
 have hm1 := hn1.keep hk0
 have hm2 := hn2.keep hk0
 have lt1 := Blk.lt hn1.node
 have lt2 := Blk.lt hn2.node
 obtain ⟨g, o, u, v, hA, hu, hv, hc0, hc1, hg⟩ := hn2.ks.cells_at (Below.refl _ _) (k := 0) (by omega)
 subst hA
 obtain ⟨_, _, _, hve, hnc, hcm, _, _⟩ := hn2.ks
 injection hve with hve1 _ hce
 subst hce
 subst hve1
 have hkc := zco es2 bs2 0 (by omega) (by omega)
 rw [hkc.1] at hu
 rw [hkc.2] at hv
 injection hu with hu
 injection hv with hv
 subst hu
 subst hv
 simp only [Nat.zero_mul, Nat.add_zero] at hc0 hc1
 obtain ⟨bk, hbk⟩ : ∃ bk, bk = bs2[0]'(by omega) := ⟨_, rfl⟩
 obtain ⟨k2, hk2⟩ : ∃ k2, k2 = (es2[0]'(by omega)).1 := ⟨_, rfl⟩
 rw [<- hk2] at hc0
 rw [<- hbk] at hc1
 have q1 : (0 : Int) < (es2.length : Int) := by omega
 have q2 : (1 : Int) <= (es2.length : Int) := by omega
 have q3 : 1 <= c2 := by omega
 have hrc := (zhh hn2.ks 1 hp2).2
 rw [zf1] at hrc
 obtain ⟨ad, had, hrd⟩ : ∃ ad, (if c2 = 1 then some (⟨g, o, none⟩ : Addr) else some ⟨g, o + 2, none⟩) = some ad /\ Reads w w.heap.size 2 (some ad) (es2.length - 1) (kcells (es2.drop 1) (bs2.drop 1)) := by
  by_cases hc : c2 = 1
  . exact ⟨⟨g, o, none⟩, if_pos hc, hrc.1, fun h => absurd h (by omega)⟩
  . exact ⟨⟨g, o + 2, none⟩, if_neg hc, by simpa using hrc⟩
 have RC := zaa hrd
 clear hrd
 have hone : ∀ u ∈ ([.string k, P bk] : List Value), u.oneCell' = true := by
  intro u hu
  simp only [List.mem_cons, List.not_mem_nil, or_false] at hu
  rcases hu with rfl | rfl <;> rfl
 have HONE := zaa hone
 clear hone
 have OD := zaa (zb0 (es2.drop 1) (bs2.drop 1))
 clear hrc
 have HBX := zaa hbx
 have M1 := zaa hm1
 have M2 := zaa hm2
 have O1 := zaa (zb0 es1 bs1)
 have O2 := zaa (zb0 es2 bs2)
 have I0 := zaa hi0
 have Z0 := zaa hz0
 have Z1 := zaa hz1
 have Z2 := zaa hz2
 have HBK := zaa hbk
 have HK2 := zaa hk2
 have C0 := zaa hc0
 have C1 := zaa hc1
 clear hbx hm1 hm2 hk0 hn1 hn2 hi0 hz0 hz1 hz2 hbk hk2 hkc hc0 hc1
 unfold P
 go_enter Tryz.func162, Tryz.ntmps162
 go_wp2_with (first
  | (go_at_call 118; refine (zko b1 blk1 gen1 f1 B1 0 d1 _ A1 _ c1 _ _ M1.out (by simp) O1.out (by omega) (by omega)).mono ?_; rintro e w1 ⟨b', A1', c1', A2', c2', rfl, x1, x2, x3, x4, x5⟩; have N1 := zaa (M1.out.keep (Keep.of_below x5)); have N2 := zaa (M2.out.keep (Keep.of_below x5)); have X1 := zaa x1; clear x1)
  | (go_at_call 81; refine (zee b1 blk1 gen1 es1.length c1 _ _ _ _ N1.out.node hp1 (by omega)).mono ?_; rintro e w' ⟨rfl, rfl⟩
     have hz1 : w.heap.size + 1 <= w1.heap.size := by have := x5.size; simp at this; omega
     have hbw : Below w.heap.size w w1 := ((Below.refl _ _).alloc (Nat.le_refl _) _).trans (x5.mono (by simp))
     have y1 : w1.cell? ⟨b', 4, none⟩ = some (.slice A2' es1.length c2') := by rw [X1.out.cell]; rfl
     have hbx1 := HBX.out.below x5 (by simp)
     have y2 : w1.cell? ⟨w.heap.size, 1, none⟩ = some (P b2) := by rw [hbx1.cell]; rfl
     have y20 : w1.cell? ⟨w.heap.size, 0, none⟩ = some (.string k) := by rw [hbx1.cell]; rfl
     have y3 : w1.cell? ⟨b2, 4, none⟩ = some (.slice (some ⟨g, o, none⟩) es2.length c2) := by rw [Blk.cell N2.out.node]; rfl
     have y4 : w1.cell? ⟨g, o, none⟩ = some (.string k2) := by rw [hbw.cell hg]; exact C0.out
     have y5 : w1.cell? ⟨g, o + 1, none⟩ = some (P bk) := by rw [hbw.cell hg]; exact C1.out
     have z1 := fun o1 => za3 o1 y1
     have z2 := fun o1 => za3 o1 y2
     have z20 := fun o1 => za3 o1 y20
     have z3 := fun o1 => za3 o1 y3
     have HBW := zaa hbw
     have H5 := zaa x5
     clear hbw x5 hbx1))
 obtain ⟨w2, hw2⟩ : ∃ w2, w2 = w1.alloc (Obj.cells #[.string k, P bk] 139) := ⟨_, rfl⟩
 rw [<- hw2]
 have hsz2 : w2.heap.size = w1.heap.size + 1 := by rw [hw2]; simp
 have e1 : w2.cell? ⟨b', 4, none⟩ = some (.slice A2' es1.length c2') := by rw [hw2]; exact z1 _
 have e2 : w2.cell? ⟨w.heap.size, 1, none⟩ = some (P b2) := by rw [hw2]; exact z2 _
 have e3 : w2.cell? ⟨b2, 4, none⟩ = some (.slice (some ⟨g, o, none⟩) es2.length c2) := by rw [hw2]; exact z3 _
 have b6 : Blk w2 w1.heap.size 139 #[.string k, P bk] := by rw [hw2]; exact Blk.new w1 _ _
 have e4 : w2.cell? ⟨w1.heap.size, 0, none⟩ = some (.string k) := by rw [b6.cell]; rfl
 have e5 : w2.cell? ⟨w1.heap.size, 1, none⟩ = some (P bk) := by rw [b6.cell]; rfl
 have sN : Blk w2 b' 137 #[.int .i64 0, .int .u32 0, .bool true, .slice A1' 0 c1', .slice A2' es1.length c2'] := by rw [hw2]; exact X1.out.alloc _
 have s3 : w2.ownsRow (w.heap.size + 1) 139 2 (.slice A2' es1.length c2') es1.length (kcells es1 bs1) := by
  rw [hw2]; exact zct (zat x3 ((Below.refl _ _).alloc (Nat.le_refl _) _)) (by simp)
 have s2 : w2.ownsRow w.heap.size 68 2 (.slice A1' 0 c1') 0 [] := by
  rw [hw2]; exact zct (zat x2 ((Below.refl _ _).alloc (Nat.le_refl _) _)) (by simp)
 have hB2 : Below w.heap.size w w2 := by rw [hw2]; exact HBW.out.alloc (by omega) _
 have SN := zaa sN
 have S2 := zaa s2
 have S3 := zaa s3
 have HB2 := zaa hB2
 have B6 := zaa b6
 have W2 := zaa hw2
 clear z1 z2 z20 z3 y1 y2 y20 y3 y4 y5 hw2 b6 sN s3 s2 hB2 x2 x3
 have hneb : (Value.slice A2' es1.length c2').ownBlock ≠ some b' := zae S3.out SN.out (by decide)
 have HNE := zaa hneb
 have k1 : es1.length + 1 <= maxLen := by simp only [maxLen]; omega
 have k2' : (es1.length + 1) * 24 <= 140737488355328 := by omega
 have k3 : w.heap.size <= w2.heap.size := by omega
 have j1 : es1.length + 1 + (es2.length - 1) <= maxLen := by simp only [maxLen]; omega
 have j2 : (es1.length + 1 + (es2.length - 1)) * 24 <= 140737488355328 := by omega
 have a1 := fun o1 => za3 o1 e1
 have a2 := fun o1 => za3 o1 e2
 have a3 := fun o1 => za3 o1 e3
 have t1 : b' < w2.heap.size := SN.out.lt
 have t2 : w.heap.size < w2.heap.size := by omega
 have t3 : b2 < w2.heap.size := by omega
 have r1 : (Value.slice A2' es1.length c2').ownBlock ≠ some w.heap.size := zb3 S3.out (Nat.lt_succ_self _)
 have r2 : (Value.slice A2' es1.length c2').ownBlock ≠ some b2 := zb3 S3.out (Nat.lt_succ_of_lt lt2)
 have hnn : es1.length + 1 + (es2.length - 1) = es1.length + es2.length := by omega
 have HNN := zaa hnn
 clear hnn
 have HSZ := zaa hsz2
 clear hsz2 hneb
 go_region_law (first
  | (refine zc9 _ rfl (.tmp 39) (.tmp 41) 135 rfl (w.heap.size + 1) 139 i0 _ 2 24 Tryz.underlying135 I0.out Z0.out Z1.out Z2.out rfl (by omega) (.slice A2' es1.length c2') es1.length (kcells es1 bs1) (by simp [Act.eval, Act.put]) (zat S3.out (((Below.refl _ _).alloc (Nat.le_refl _) _).drew)) _ (some ⟨w2.heap.size, 0, none⟩) 1 1 [.string k, P bk] (by simp [Act.eval, Act.put]) (zq4 (Blk.new _ _ _)).drew HONE.out k1 k2' (by simp; omega) ?_
     intro v1 w3 ho3 hg3 hat3
     obtain ⟨A3, c3, rfl, _, ho4⟩ := zbf ho3
     have sb : Blk w3 b' _ _ := (SN.out.alloc _).drew.grown hg3 (fun h => HNE.out h.symm)
     have g2 : w3.cell? ⟨w.heap.size, 1, none⟩ = some (P b2) := (hg3.cell_far _ (by simp; omega) (fun h => r1 h.symm)).trans (a2 _)
     have g3 : w3.cell? ⟨b2, 4, none⟩ = some (.slice (some ⟨g, o, none⟩) es2.length c2) := (hg3.cell_far _ (by simp; omega) (fun h => r2 h.symm)).trans (a3 _)
     have hbw3 : Below w.heap.size w w3 := Below.grown ((HB2.out.alloc (Nat.le_of_lt t2) _).drew) hg3 (by simp; omega) (fun g hg => Nat.le_of_succ_le (zl4 S3.out g hg))
     have hl13 : w.heap.size + 1 <= (w2.alloc (Obj.cells #[.string k, P bk] 139)).drew.heap.size := by simp; omega
     have SB := zaa sb
     have HG3 := zaa hg3
     have HO4 := zaa ho4
     have HBW3 := zaa hbw3
     clear sb)
  | (refine zc9 _ rfl (.tmp 42) (.tmp 48) 135 rfl (w.heap.size + 1) 139 i0 _ 2 24 Tryz.underlying135 I0.out Z0.out Z1.out Z2.out rfl (by omega) (.slice A3 (es1.length + 1) c3) (es1.length + 1) (kcells es1 bs1 ++ [.string k, P bk]) (by simp [Act.eval, Act.put]) ho4 w.heap.size (some ad) (es2.length - 1) (c2 - 1) (kcells (es2.drop 1) (bs2.drop 1)) (by simp [Act.eval, Act.put]) (RC.out.below hbw3) OD.out j1 j2 (Nat.le_trans hl13 hg3.size) ?_
     intro v1 w4 ho5 hg4 hat4
     obtain ⟨A4, c4, rfl, _, ho6⟩ := zbf ho5
     have sc := SB.out.grown hg4 (fun h => zae ho4 SB.out (by decide) h.symm)
     have s2 : w4.cell? ⟨b', 4, none⟩ = some (.slice A2' es1.length c2') := by rw [sc.cell]; rfl
     have s3 : w4.frozen? ⟨b', 4, none⟩ = false := sc.frozen 4
     have SC := zaa sc
     clear sc))
 all_goals
  go_wp2
  go_ret
  have hbw4 : Below w.heap.size w w4 := Below.grown HBW3.out hg4 (Nat.le_trans (Nat.le_of_succ_le hl13) HG3.out.size) (fun g hg => Nat.le_of_succ_le (zl4 HO4.out g hg))
  have hp3 : w3.ownsRow w.heap.size 68 2 (.slice A1' 0 c1') 0 [] := World.ownsRow.kept (zat S2.out (((Below.refl _ _).alloc (Nat.le_refl _) _).drew)) HG3.out (ze9 S2.out S3.out (by decide))
  have hp4 : w4.ownsRow w.heap.size 68 2 (.slice A1' 0 c1') 0 [] := World.ownsRow.kept hp3 hg4 (ze9 hp3 HO4.out (by decide))
  rw [List.append_assoc] at ho6
  refine ⟨b', A1', c1', A4, c4, rfl, ?_, ?_, ?_, ?_, ?_⟩
  . rw [<- HNN.out]; exact SC.out.set_ 4 _
  . exact ownsRow_setCell_other hp4 (zae hp4 SC.out (by decide)) _
  . rw [<- HNN.out, <- znq es1 es2 bs1 bs2 k hb1 hb2 (by omega), <- HBK.out, List.append_assoc]
    exact zct (ownsRow_setCell_other ho6 (zae ho6 SC.out (by decide)) _) (Nat.le_succ _)
  . simp at x4; omega
  . exact (hbw4.setCell (p := ⟨b', 4, none⟩) (by simp at x4; show w.heap.size <= b'; omega) _)
end Go.Proofs.YtemondlgcmpbbaaGreatDoor
