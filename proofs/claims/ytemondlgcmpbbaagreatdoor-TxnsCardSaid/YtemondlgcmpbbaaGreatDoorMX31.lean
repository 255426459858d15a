/- Zj Zk Zlb Zr Zs: merged. -/
import Derived.Test.YtemondlgcmpbbaaGreatDoorMX30
namespace Go.Proofs.YtemondlgcmpbbaaGreatDoor
open Go.RowKit
set_option maxRecDepth 100000
def zvr (w w' : World) (x rd : Nat) (τ : TxI) (S' : DbS) (ks' : List Nat) : Prop :=
 zeg w' { τ with done := true } /\ TxAt w' τ.t (τ.tx x).over /\ DbAt w' x S' /\ RdAt w' rd ks' /\ Only (fun y => y = τ.l \/ y = τ.t \/ y = x \/ y = rd) w w'
section
variable {w : World} {B N p x rd : Nat} {s : LdS} {bv cv : Value} {m : Nums} {τ : TxI} {S S' : DbS} {ks' : List Nat}
set_option maxHeartbeats 4000000 in
theorem zs9 (hl : LdAt w p s) (hpoi : s.poi = false) (hdev : DkAt w s.db bv cv m) (hτ : TxOk w x B N τ) (hD : DbAt w x S) {ks : List Nat} (hR : RdAt w rd ks) (hdo : τ.done = false)
   (hab : Calls Tryz.prog 27 #[pkv τ.t] w fun e w1 => e = .returned .nilIface /\ TxAt w1 τ.t (τ.tx x).over /\ DbAt w1 x S' /\ RdAt w1 rd ks' /\ Only (fun y => y = τ.t \/ y = x \/ y = rd) w w1) :
   Calls Tryz.prog 187 #[pkv p, pkv τ.l, .bool false] w fun e w' => e = .returned (.bool true) /\ zvr w w' x rd τ S' ks' := by
 have hne : ∀ {y : Nat} {T : TypeId} {cs : Array Value}, Blk w y T cs -> T ≠ 94 -> T ≠ 91 -> ¬ (y = τ.t \/ y = x \/ y = rd) := fun hy h1 h2 e => by
  rcases e with e | e | e
  . subst e; exact Blk.ne_ hy hτ.tx h1 rfl
  . subst e; exact Blk.ne_ hy hD h2 rfl
  . exact hR.ne_blk hy e.symm
 have hrl : rd ≠ τ.l := hR.ne_blk hτ.law
 have hlt : τ.l ≠ τ.t := Blk.ne_ hτ.law hτ.tx (by decide)
 have hlx : τ.l ≠ x := Blk.ne_ hτ.law hD (by decide)
 have hlaw := hτ.law
 obtain ⟨l, t, wr, done, st, most, T, rp, dn, lv, csv, cs⟩ := τ
 obtain ⟨db, n, may, emp, were, wild, bit, xv, cc, commits, poi, ts, lists, want⟩ := s
 simp only at hpoi hdev hdo hab hrl hlt hlx hlaw hne
 subst hpoi hdo
 have HT := zaa (zbc db bv cv m w hdev)
 have HWR := zaa (zez db bv cv m w hdev)
 have t0 := (zbm hlaw).1
 have k0 := (zar hl).1
 have HL := zaa (fun W (ho : Only (fun y => y = t \/ y = x \/ y = rd) w W) => Blk.only hl ho (hne hl (by decide) (by decide)))
 have HLT := zaa (fun W (ho : Only (fun y => y = t \/ y = x \/ y = rd) w W) => Blk.only hlaw ho (hne hlaw (by decide) (by decide)))
 have HDV := zaa (fun W (ho : Only (fun y => y = t \/ y = x \/ y = rd) w W) => zez db bv cv m W (Blk.only hdev ho (hne hdev (by decide) (by decide))))
 have HAB := zaa hab
 have e0 : m.writes - m.writes = 0 := by omega
 have e1 : IntKind.i64.wrap (m.writes - m.writes) = 0 := by rw [e0]; rfl
 unfold pkv at *
 clear hτ hl hD hR hdev hab hlaw
 go_enter Tryz.func187, Tryz.ntmps187
 go_wp2_with (first
  | (go_at_call 178; refine HT.out.mono ?_; rintro e w' ⟨rfl, rfl⟩)
  | (go_at_call 25; (refine (HDV1.out).mono ?_); rintro e w' ⟨rfl, rfl⟩)
  | (go_at_call 25; refine HWR.out.mono ?_; rintro e w' ⟨rfl, rfl⟩)
  | (go_at_call 27; go_loud (
     refine HAB.out.mono ?_; rintro e w1 ⟨rfl, hT1, hD1, hR1, ho1⟩
     have hl1 := HL.out w1 ho1
     have hlt1 := HLT.out w1 ho1
     have HDV1 := zaa (HDV.out w1 ho1)
     have m0 := (zar hl1).1
     have m10 := (zbi hl1).2.2.2.1
     have q2 : w1.cell? ⟨l, 2, none⟩ = some (.bool wr) := zab hlt1 2 rfl
     have q3 : w1.cell? ⟨l, 3, none⟩ = some (.bool false) := zab hlt1 3 rfl
     have z3 : w1.frozen? ⟨l, 3, none⟩ = false := Blk.frozen hlt1 3
     have HLT1 := zaa hlt1
     have HT1 := zaa hT1
     have HD1 := zaa hD1
     have HR1 := zaa hR1
     have HO1 := zaa ho1
     clear hl1 hlt1 hT1 hD1 hR1 ho1 t0 k0))
  | (go_at_call 30; refine (zcq _).mono ?_; rintro e w' ⟨rfl, rfl⟩)
  | (go_at_call 179; refine (za6 _ _).mono ?_; rintro e w' ⟨rfl, rfl⟩))
 all_goals (
  go_ret
  have ho2 : Only (· = l) w1 (w1.setCell ⟨l, 3, none⟩ (.bool true)) := Only.set1 _ _ _ _
  refine ⟨rfl, HLT1.out.set_ 3 _, Blk.only HT1.out ho2 (fun e => hlt e.symm), Blk.only HD1.out ho2 (fun e => hlx e.symm), HR1.out.only ho2 hrl, ?_⟩
  exact (HO1.out.mono fun y _ hy => .inr hy).trans (ho2.mono fun y _ hy => .inl hy))
set_option maxHeartbeats 4000000 in
theorem zta (hl : LdAt w p s) (hpoi : s.poi = false) (hdev : DkAt w s.db bv cv m) (hτ : zeg w τ) (hdo : τ.done = true) (hg : Glob w)
   (hab : Calls Tryz.prog 27 #[pkv τ.t] w fun e w1 => ∃ f, e = .returned (zag f) /\ zao w1 f zhx 5 /\ w.heap.size <= f /\ Below w.heap.size w w1) :
   Calls Tryz.prog 187 #[pkv p, pkv τ.l, .bool false] w fun e w' => e = .returned (.bool true) /\ Below w.heap.size w w' := by
 obtain ⟨l, t, wr, done, st, most, T, rp, dn, lv, csv, cs⟩ := τ
 obtain ⟨db, n, may, emp, were, wild, bit, xv, cc, commits, poi, ts, lists, want⟩ := s
 simp only at hpoi hdev hdo hab
 subst hpoi hdo
 have HT := zaa (zbc db bv cv m w hdev)
 have HWR := zaa (zez db bv cv m w hdev)
 have t0 := (zbm hτ).1
 have k0 := (zar hl).1
 have HL := zaa (fun W (hb : Below w.heap.size w W) => Blk.below hl hb hl.lt)
 have HLT := zaa (fun W (hb : Below w.heap.size w W) => Blk.below hτ hb (Blk.lt hτ))
 have HDV := zaa (fun W (hb : Below w.heap.size w W) => zez db bv cv m W (Blk.below hdev hb (Blk.lt hdev)))
 have HG := zaa (fun W (hb : Below w.heap.size w W) => hg.only (fp := fun _ => False) (Only.of_below hb) id)
 have HAB := zaa hab
 have e0 : m.writes - m.writes = 0 := by omega
 have e1 : IntKind.i64.wrap (m.writes - m.writes) = 0 := by rw [e0]; rfl
 unfold pkv at *
 clear hτ hl hdev hab hg
 go_enter Tryz.func187, Tryz.ntmps187
 go_wp2_with (first
  | (go_at_call 178; refine HT.out.mono ?_; rintro e w' ⟨rfl, rfl⟩)
  | (go_at_call 25; (refine (HDV2.out).mono ?_); rintro e w' ⟨rfl, rfl⟩)
  | (go_at_call 25; refine HWR.out.mono ?_; rintro e w' ⟨rfl, rfl⟩)
  | (go_at_call 27; go_loud (
     refine HAB.out.mono ?_; rintro e w1 ⟨f, rfl, hf, _, hb1⟩
     have HTF := zaa (zbl f 5 _ w1 hf (HG.out w1 hb1))
     have HB1 := zaa hb1
     clear hf hb1 t0 k0
     unfold zag at HTF
     unfold zag))
  | (go_at_call 30; go_loud (
     refine HTF.out.mono ?_; rintro e w2 ⟨rfl, hb2⟩
     have hb := HB1.out.trans (hb2.mono HB1.out.size)
     have hl1 := HL.out w2 hb
     have hlt1 := HLT.out w2 hb
     have HDV2 := zaa (HDV.out w2 hb)
     have m0 := (zar hl1).1
     have m10 := (zbi hl1).2.2.2.1
     have q3 : w2.cell? ⟨l, 3, none⟩ = some (.bool true) := zab hlt1 3 rfl
     have HB := zaa hb
     clear hl1 hlt1 hb hb2))
  | (go_at_call 179; refine (za6 _ _).mono ?_; rintro e w' ⟨rfl, rfl⟩))
 all_goals (go_ret; exact ⟨rfl, HB.out⟩)
end
theorem ztb : (Tryz.prog.info? 279).map (fun i => (i.zero, i.size, i.bytes)) = some (some (.pointer none), 1, 8) := by kernel_rfl
def zvs (w w' : World) (B : Nat) (τ : TxI) : Prop :=
 ∃ q c csv', Blk w' q 302 #[.pointer (some ⟨c, 0, none⟩), .string ⟨#[]⟩, .bool false, .int .i64 0] /\ zld w' c τ.t ⟨#[]⟩ false 0 /\ w'.ownsRow B 279 1 csv' (τ.cs.length + 1) ((τ.cs.map fun c => pkv c.q) ++ [pkv q]) /\
   (∀ g, csv'.ownBlock = some g -> τ.csv.ownBlock = some g \/ w.heap.size <= g) /\ zeg w' { τ with csv := csv' } /\ w.heap.size <= q /\ w.heap.size <= c /\ Only (fun y => y = τ.l \/ some y = τ.csv.ownBlock) w w'
section
variable {w : World} {B N p x : Nat} {s : LdS} {τ : TxI}
set_option maxHeartbeats 4000000 in
theorem zpw (hl : LdAt w p s) (hpoi : s.poi = false) (hτ : TxOk w x B N τ) (hdo : τ.done = false) (hN : N <= 16384) (hwB : B <= w.heap.size)
   (hcu : Calls Tryz.prog 42 #[pkv τ.t] w fun e w1 => Below w.heap.size w w1 /\ ∃ c, e = .returned (.tuple #[.pointer (some ⟨c, 0, none⟩), .nilIface]) /\ zld w1 c τ.t ⟨#[]⟩ false 0 /\ w.heap.size <= c) :
   Calls Tryz.prog 188 #[pkv p, pkv τ.l] w fun e w' => e = .returned (.bool true) /\ zvs w w' B τ := by
 obtain ⟨i0, hi0, hi1, hi2, hi3⟩ := info_parts ztb
 have hcn := hτ.cn
 have hlaw := hτ.law
 have hrow := hτ.crow
 obtain ⟨l, t, wr, done, st, most, T, rp, dn, lv, csv, cs⟩ := τ
 obtain ⟨db, n, may, emp, were, wild, bit, xv, cc, commits, poi, ts, lists, want⟩ := s
 simp only at hpoi hdo hcu hcn hlaw hrow
 subst hpoi hdo
 obtain ⟨A, cap, hv, hcap, hcapm, hv2⟩ := zad hrow
 subst hv
 clear hv2
 have t0 := (zbm hlaw).1
 have HL := zaa (fun W (hb : Below w.heap.size w W) => Blk.below hl hb hl.lt)
 have HLT := zaa (fun W (hb : Below w.heap.size w W) => Blk.below hlaw hb (Blk.lt hlaw))
 have HROW := zaa (fun W (hb : Below w.heap.size w W) => zap hrow hb)
 have HI0 := zaa hi0
 have HI1 := zaa hi1
 have HI2 := zaa hi2
 have HI3 := zaa hi3
 have HCU := zaa hcu
 have hll : l < w.heap.size := Blk.lt hlaw
 unfold pkv at *
 clear hτ hl hcu hlaw hrow hi0 hi1 hi2 hi3
 go_enter Tryz.func188, Tryz.ntmps188
 go_wp2_with (first
  | (go_at_call 42; go_loud (
     refine HCU.out.mono ?_; rintro e w1 ⟨hb1, c, rfl, hc1, hcz⟩
     have hl1 := HL.out w1 hb1
     have hlt1 := HLT.out w1 hb1
     have m10 := (zbi hl1).2.2.2.1
     have q3 : w1.cell? ⟨l, 3, none⟩ = some (.bool false) := zab hlt1 3 rfl
     have q8 : w1.cell? ⟨l, 8, none⟩ = some (.slice A cs.length cap) := zab hlt1 8 rfl
     have q8' := fun o => zaj o q8
     have HLT1 := zaa hlt1
     have HC1 := zaa hc1
     have HCZ := zaa hcz
     have HB1 := zaa hb1
     have HROW1 := zaa (HROW.out w1 hb1)
     clear hl1 hlt1 hc1 hcz hb1 t0))
  | (go_at_call 30; refine (zcq _).mono ?_; rintro e w' ⟨rfl, rfl⟩)
  | (go_at_call 179; refine (za6 _ _).mono ?_; rintro e w' ⟨rfl, rfl⟩)
  | (at_builtin; go_loud (
     obtain ⟨W2, hW2⟩ : ∃ W2, W2 = w1.alloc (.cells #[.pointer (some ⟨c, 0, none⟩), .string ⟨#[]⟩, .bool false, .int .i64 0] 302) := ⟨_, rfl⟩
     have hs2 : W2.heap.size = w1.heap.size + 1 := by rw [hW2]; exact World.size_alloc _ _
     have hb2 : Below w1.heap.size w1 W2 := by rw [hW2]; exact (Below.refl _ _).alloc (Nat.le_refl _) _
     have hq2 : Blk W2 w1.heap.size 302 #[.pointer (some ⟨c, 0, none⟩), .string ⟨#[]⟩, .bool false, .int .i64 0] := by rw [hW2]; exact Blk.new _ _ _
     rw [<- hW2]
     have hrow2 := zap HROW1.out hb2
     have hlt2 := Blk.below HLT1.out hb2 (Blk.lt HLT1.out)
     have HS2 := zaa hs2
     have HB2 := zaa hb2
     have HQ2 := zaa hq2
     have HROW2 := zaa hrow2
     have HLT2 := zaa hlt2
     clear hs2 hb2 hq2 hrow2 hlt2 hW2
     refine zah _ rfl (.tmp 54) (.tmp 58) 271 rfl B 279 i0 (.pointer none) 1 8 Tryz.underlying271 HI0.out HI1.out HI2.out HI3.out rfl (by decide) (.slice A cs.length cap) cs.length (cs.map fun c => pkv c.q) (by kernel_rfl) (HROW2.out.alloc _) (W2.heap.size + 1) (some ⟨w1.heap.size + 1, 0, none⟩) 1 1 [.pointer (some ⟨w1.heap.size, 0, none⟩)] (by kernel_rfl) ⟨rfl, fun _ => ⟨_, rfl, by show w1.heap.size + 1 < W2.heap.size + 1; have := HS2.out; omega, fun j u hu => by rw [Addr.add_lit, <- HS2.out]; exact (Blk.new W2 279 #[.pointer (some ⟨w1.heap.size, 0, none⟩)]).range (cur := [.pointer (some ⟨w1.heap.size, 0, none⟩)]) (o := 0) rfl j u hu⟩⟩ (fun u hu => by rw [List.mem_singleton.1 hu]; rfl) (by unfold maxLen; omega) (by omega) (by have := HB2.out.size; have := HB1.out.size; simp only [World.size_alloc]; omega) ?_
     intro v' w4 hown4 hgr4 hat4
     obtain ⟨A4, c4, hv4, hv5⟩ := zad hown4
     clear hv5
     subst hv4
     have hopl : some l ≠ (Value.slice A cs.length cap).ownBlock := fun e => zae HROW2.out HLT2.out (by decide) e.symm
     have hlt4 := (Blk.alloc HLT2.out (.cells #[.pointer (some ⟨w1.heap.size, 0, none⟩)] 279)).grown hgr4 hopl
     have f8 : w4.frozen? ⟨l, 8, none⟩ = false := Blk.frozen hlt4 8
     have o8 : w4.cell? ⟨l, 8, none⟩ = some (.slice A cs.length cap) := zab hlt4 8 rfl
     have HLT4 := zaa hlt4
     have HOWN4 := zaa hown4
     have HGR4 := zaa hgr4
     have HAT4 := zaa hat4
     clear hlt4 hown4 hgr4 hat4 q8 q8')))
 go_ret
 have hs2 := HS2.out
 have hz1 := HB1.out.size
 have hoA : Only (fun y => some y = (Value.slice A cs.length cap).ownBlock) W2 w4 := Only.grown ((Only.refl _ _).alloc _) HGR4.out (fun g e => .inl e.symm)
 have hfA : ∀ {y : Nat} {T : TypeId} {cx : Array Value}, Blk W2 y T cx -> T ≠ 279 -> ¬ some y = (Value.slice A cs.length cap).ownBlock := fun hy hT e => zae HROW2.out hy hT.symm e.symm
 have ho5 : Only (· = l) w4 (w4.setCell ⟨l, 8, none⟩ (.slice A4 (cs.length + 1) c4)) := Only.set1 _ _ _ _
 have hfp : ∀ {y : Nat} {T : TypeId} {cx : Array Value}, Blk w4 y T cx -> T ≠ 273 -> ¬ y = l := fun hy hT e => by subst e; exact Blk.ne_ hy HLT4.out hT rfl
 have hq4 := Blk.only HQ2.out hoA (hfA HQ2.out (by decide))
 have hc2 := Blk.below HC1.out HB2.out (Blk.lt HC1.out)
 have hc4 := Blk.only hc2 hoA (hfA hc2 (by decide))
 refine ⟨rfl, w1.heap.size, c, .slice A4 (cs.length + 1) c4, Blk.only hq4 ho5 (hfp hq4 (by decide)), Blk.only hc4 ho5 (hfp hc4 (by decide)), zak HOWN4.out ho5 (fun z cx hz => hfp hz (by decide)), ?_, HLT4.out.set_ 8 _, hz1, HCZ.out, ?_⟩
 . intro g hg
   rcases HAT4.out with e | e
   . exact .inl (by rw [<- e]; exact hg)
   . rw [hg] at e
     injection e with e
     rw [World.size_alloc] at e
     exact .inr (by omega)
 . have o1 : Only (fun y => y = l \/ some y = (Value.slice A cs.length cap).ownBlock) w W2 := Only.of_below (HB1.out.trans (HB2.out.mono HB1.out.size))
   exact (o1.trans (hoA.mono fun y _ hy => .inr hy)).trans (ho5.mono fun y _ hy => .inl hy)
set_option maxHeartbeats 4000000 in
theorem zpx (hl : LdAt w p s) (hpoi : s.poi = false) (hτ : zeg w τ) (hdo : τ.done = true) (hg : Glob w)
   (hcu : Calls Tryz.prog 42 #[pkv τ.t] w fun e w1 => Below w.heap.size w w1 /\ ∃ f, e = .returned (.tuple #[.pointer none, zag f]) /\ zao w1 f zgr 5) :
   Calls Tryz.prog 188 #[pkv p, pkv τ.l] w fun e w' => e = .returned (.bool true) /\ Below w.heap.size w w' := by
 obtain ⟨l, t, wr, done, st, most, T, rp, dn, lv, csv, cs⟩ := τ
 obtain ⟨db, n, may, emp, were, wild, bit, xv, cc, commits, poi, ts, lists, want⟩ := s
 simp only at hpoi hdo hcu
 subst hpoi hdo
 have t0 := (zbm hτ).1
 have HL := zaa (fun W (hb : Below w.heap.size w W) => Blk.below hl hb hl.lt)
 have HLT := zaa (fun W (hb : Below w.heap.size w W) => Blk.below hτ hb (Blk.lt hτ))
 have HG := zaa (fun W (hb : Below w.heap.size w W) => hg.only (fp := fun _ => False) (Only.of_below hb) id)
 have HCU := zaa hcu
 unfold pkv at *
 clear hτ hl hcu hg
 go_enter Tryz.func188, Tryz.ntmps188
 go_wp2_with (first
  | (go_at_call 42; go_loud (
     refine HCU.out.mono ?_; rintro e w1 ⟨hb1, f, rfl, hf⟩
     have HTF := zaa (zbl f 5 _ w1 hf (HG.out w1 hb1))
     have HB1 := zaa hb1
     clear hf hb1 t0
     unfold zag at HTF
     unfold zag))
  | (go_at_call 30; go_loud (
     refine HTF.out.mono ?_; rintro e w2 ⟨rfl, hb2⟩
     have hb := HB1.out.trans (hb2.mono HB1.out.size)
     have hl1 := HL.out w2 hb
     have hlt1 := HLT.out w2 hb
     have m10 := (zbi hl1).2.2.2.1
     have q3 : w2.cell? ⟨l, 3, none⟩ = some (.bool true) := zab hlt1 3 rfl
     have HB := zaa hb
     clear hl1 hlt1 hb hb2))
  | (go_at_call 179; refine (za6 _ _).mono ?_; rintro e w' ⟨rfl, rfl⟩))
 all_goals (go_ret; exact ⟨rfl, HB.out⟩)
end
section
variable {T : Tree} (hw : TW T) {k key : Str}
include hw
theorem zpy : (T.delete k).pairs = zd4 k T.pairs /\ (T.delete k).pairs.length <= T.pairs.length := by
 have hr : zcs T.pairs := hw.leaf.1
 have h := (zhf hw k).1
 rw [h, zsx hr]
 refine ⟨rfl, ?_⟩
 unfold zgk
 split
 . rename_i ht
   have := (zdt k T.pairs hr ht).1
   omega
 . exact Nat.le_refl _
theorem zuo {v : Str} (h1 : zck k) (h2 : zdi v) : (T.put k v).pairs = zcp k v T.pairs /\ (zcp k v T.pairs).length = T.pairs.length + (if (T.get k).isSome then 0 else 1) := by
 have hr : zcs T.pairs := hw.leaf.1
 rw [(zkl hw h1 h2).1, zsw hr]
 refine ⟨rfl, ?_⟩
 rw [(zgl k v T.pairs hr).1, zcw, hw.get]
end
theorem zup {n : Nat} {keys : Nat} (h : (keys : Int) < zdm n) (hn : n <= 400) : keys + 1 <= 130 := by
 unfold zdm at h
 by_cases h1 : 12 <= n
 . rw [Int.tdiv_eq_ediv_of_nonneg (by omega)] at h
   omega
 . have h2 : ∀ n : Nat, n < 12 -> ((n : Int) - 12).tdiv 3 <= 0 := by decide
   have := h2 n (by omega)
   omega
theorem zuq {n : Nat} {keys : Nat} (h : zdm n <= (keys : Int)) : n < 3 * (keys + 1) + 12 := by
 unfold zdm at h
 by_cases h1 : 12 <= n
 . rw [Int.tdiv_eq_ediv_of_nonneg (by omega)] at h
   omega
 . omega
theorem StI.mid {σ : StI} {a b : List TxI} {τ : TxI} (hts : σ.ts = a ++ τ :: b) : σ.own = (σ.x :: σ.rd :: (σ.tsv.ownBlock.toList ++ a.flatMap TxI.own)) ++ τ.own ++ b.flatMap TxI.own := by
 unfold StI.own
 rw [hts, List.flatMap_append, List.flatMap_cons]
 simp
theorem zj5 {a b : List TxI} {τ τ' : TxI} (h1 : τ'.wr = τ.wr) (h2 : τ'.done = τ.done) (h3 : τ'.t = τ.t) : wrL (a ++ τ' :: b) = wrL (a ++ τ :: b) := by
 unfold wrL
 rw [List.filter_append, List.filter_append, List.filter_cons, List.filter_cons, h1, h2]
 split <;> simp [h3]
theorem zhy {a b : List TxI} {τ τ' : TxI} (h1 : τ'.wr = τ.wr) (h2 : τ'.done = τ.done) (h3 : τ'.t = τ.t) : rdL (a ++ τ' :: b) = rdL (a ++ τ :: b) := by
 unfold rdL
 rw [List.filter_append, List.filter_append, List.filter_cons, List.filter_cons, h1, h2]
 split <;> simp [h3]
theorem zoj {a b : List TxI} {τ τ' : TxI} (h1 : τ'.wr = τ.wr) (h2 : τ'.done = τ.done) (h3 : τ'.t = τ.t) : wrV (a ++ τ' :: b) = wrV (a ++ τ :: b) := by
 unfold wrV
 rw [zj5 h1 h2 h3]
section
variable {w w' : World} {B N : Nat} {d : DiI} {s : LdS} {m : Nums} {bytes : List UInt8} {kM kW : Nat} {σ : StI} {τ τ' : TxI} {a b : List TxI}
theorem DiOk.txn (H : DiOk w B N d s m bytes kM kW) (hn : d.own.Nodup) (hst : d.st = some σ) (hts : σ.ts = a ++ τ :: b) {fp : Nat -> Prop} (ho : Only fp w w') (hf : ∀ y, fp y -> y = σ.x \/ y = σ.rd \/ y ∈ τ.own) (hτ' : TxOk w' σ.x B (N + 1) τ') (hl : τ'.l = τ.l)
   (hdb : DbAt w' σ.x ⟨σ.dk, .pointer none, 0, wrV (a ++ τ' :: b), σ.rd, false⟩) (hrd : RdAt w' σ.rd (rdL (a ++ τ' :: b))) (h1 : (wrL (a ++ τ' :: b)).length <= 1) (h4 : (rdL (a ++ τ' :: b)).length <= 4) (hs : ∀ y ∈ τ'.own, y ∈ τ.own \/ w.heap.size <= y) (hn' : τ'.own.Nodup) {e : Ending} (he : e = .returned (.bool true)) : TurnPost B N d w e w' := by
 obtain ⟨q1, q2, q3, q4, hσ⟩ := H.sok hst
 have hown := DiI.own_some hst
 have hlt : ∀ y ∈ d.own, y < w.heap.size := fun y hy => (H.own y hy).lt
 have hn0 := hn
 rw [hown] at hn
 obtain ⟨n1, n2, n3⟩ := List.nodup_append.1 hn
 have hmid := StI.mid hts
 have hlow : ∀ y ∈ σ.own, y < w.heap.size := fun y hy => (hσ.own y hy).lt
 have hfo : ∀ y, fp y -> y ∈ σ.own := fun y hy => by
  rw [hmid]
  rcases hf y hy with e | e | e
  . rw [e]; simp
  . rw [e]; simp
  . simp [e]
 have hp : ¬ fp d.p := fun e => n3 d.p (by simp [DiI.base]) d.p (hfo _ e) rfl
 have hkf : KF fp w := KF.of fun y hy => hσ.own y (hfo y hy)
 have n2' := n2
 rw [hmid] at n2'
 obtain ⟨m1, m2, m3⟩ := List.nodup_append.1 n2'
 obtain ⟨m4, m5, m6⟩ := List.nodup_append.1 m1
 have m4' := m4
 simp only [List.nodup_cons, List.mem_cons, List.mem_append, not_or] at m4'
 obtain ⟨⟨_, x1, x2⟩, ⟨r1, r2⟩, t1⟩ := m4'
 have hnf : ∀ y, (y ∈ σ.tsv.ownBlock.toList \/ y ∈ a.flatMap TxI.own) -> ¬ fp y := fun y hy e => by
  rcases hf y e with k | k | k
  . subst k; rcases hy with k | k; exact x1 k; exact x2 k
  . subst k; rcases hy with k | k; exact r1 k; exact r2 k
  . exact m6 y (by simp only [List.mem_cons, List.mem_append]; exact .inr (.inr hy)) y k rfl
 have hnb : ∀ y, y ∈ b.flatMap TxI.own -> ¬ fp y := fun y hy e => by
  rcases hf y e with k | k | k
  . exact m3 y (by rw [k]; simp) y hy rfl
  . exact m3 y (by rw [k]; simp) y hy rfl
  . exact m3 y (by simp [k]) y hy rfl
 have hS : StOk w' B (N + 1) d.db s.n { σ with ts := a ++ τ' :: b } := by
  obtain ⟨hd, hdk⟩ := hσ.dk
  refine ⟨hdb, hrd, ⟨hd, hdk.only ho (hkf _ _ _ hdk (by decide))⟩, ?_, ?_, h1, h4, ?_, hσ.fit⟩
  . have := za2 hσ.row ho fun g hg => hnf g (.inl (by rw [hg]; simp))
    rw [hts] at this
    simp only [List.length_append, List.length_cons, List.map_append, List.map_cons] at this ⊢
    rw [hl]
    exact this
  . intro e he
    rcases List.mem_append.1 he with k | k
    . exact ((hσ.each e (by rw [hts]; simp [k])).only ho hkf fun y hy => hnf y (.inr (List.mem_flatMap.2 ⟨e, k, hy⟩))).more
    . rcases List.mem_cons.1 k with rfl | k
      . exact hτ'
      . exact ((hσ.each e (by rw [hts]; simp [k])).only ho hkf fun y hy => hnb y (List.mem_flatMap.2 ⟨e, k, hy⟩)).more
  . have := hσ.len
    rw [hts] at this
    simp only [List.length_append, List.length_cons] at this ⊢
    omega
 have hmid' : ({ σ with ts := a ++ τ' :: b } : StI).own = (σ.x :: σ.rd :: (σ.tsv.ownBlock.toList ++ a.flatMap TxI.own)) ++ τ'.own ++ b.flatMap TxI.own := StI.mid (σ := { σ with ts := a ++ τ' :: b }) rfl
 have hld : LdAt w' d.p { s with ts := ({ σ with ts := a ++ τ' :: b } : StI).tsv } := by
  have e : ({ s with ts := ({ σ with ts := a ++ τ' :: b } : StI).tsv } : LdS) = s := by
   show ({ s with ts := σ.tsv } : LdS) = s
   rw [<- q4]
  rw [e]
  exact Blk.only H.dk.at_ ho hp
 refine ⟨he, { d with st := some { σ with ts := a ++ τ' :: b } }, H.store hn0 hst ho (fun y hy => .inr (hfo y hy)) hld rfl hS, Turned.store hn0 hlt hst ho (fun y hy => .inr (hfo y hy)) ?_ ?_⟩
 . intro y hy
   rw [hmid'] at hy
   rw [hmid]
   simp only [List.mem_append] at hy ⊢
   rcases hy with (k | k) | k
   . exact .inl (.inl (.inl k))
   . exact (hs y k).imp (fun k => .inl (.inr k)) id
   . exact .inl (.inr k)
 . rw [hmid']
   refine zdw (F := τ.own) (z := w.heap.size) n2' ?_ hn' hs
   intro y hy
   rw [<- hmid] at hy
   exact hlow y hy
theorem DiOk.around (H : DiOk w B N d s m bytes kM kW) (hn : d.own.Nodup) (hst : d.st = some σ) (hts : σ.ts = a ++ τ :: b) : TxOk w σ.x B N τ /\ τ.own.Nodup /\ ¬ σ.x ∈ τ.own /\ ¬ σ.rd ∈ τ.own /\ (∀ y ∈ a.flatMap TxI.own ++ b.flatMap TxI.own, ¬ y ∈ τ.own) := by
 obtain ⟨q1, q2, q3, q4, hσ⟩ := H.sok hst
 rw [DiI.own_some hst] at hn
 obtain ⟨n1, n2, n3⟩ := List.nodup_append.1 hn
 rw [StI.mid hts] at n2
 obtain ⟨m1, m2, m3⟩ := List.nodup_append.1 n2
 obtain ⟨m4, m5, m6⟩ := List.nodup_append.1 m1
 refine ⟨hσ.each τ (by rw [hts]; simp), m5, fun e => m6 σ.x (by simp) σ.x e rfl, fun e => m6 σ.rd (by simp) σ.rd e rfl, fun y hy hy' => ?_⟩
 rcases List.mem_append.1 hy with k | k
 . exact m6 y (by simp only [List.mem_cons, List.mem_append]; exact .inr (.inr (.inr k))) y hy' rfl
 . exact m3 y (by simp [hy']) y k rfl
theorem DiOk.at_x (H : DiOk w B N d s m bytes kM kW) (hn : d.own.Nodup) (hst : d.st = some σ) (hts : σ.ts = a ++ τ :: b) (ho : Only (· = σ.x) w w') (hdb : DbAt w' σ.x ⟨σ.dk, .pointer none, 0, wrV σ.ts, σ.rd, false⟩) {e : Ending} (he : e = .returned (.bool true)) : TurnPost B N d w e w' := by
 obtain ⟨q1, q2, q3, q4, hσ⟩ := H.sok hst
 obtain ⟨hτ, t1, t2, t3, _⟩ := H.around hn hst hts
 have hkf : KF (· = σ.x) w := KF.of fun y hy => by rw [show y = σ.x from hy]; exact OwnB.blk hσ.db (by decide)
 refine H.txn hn hst hts ho (fun y hy => .inl hy) (hτ.only ho hkf fun y hy e => t2 (by rw [<- show y = σ.x from e]; exact hy)).more rfl (by rw [<- hts]; exact hdb) (by rw [<- hts]; exact hσ.rd.only ho (hσ.rd.ne_blk hσ.db)) (by rw [<- hts]; exact hσ.one) (by rw [<- hts]; exact hσ.four) (fun y hy => .inl hy) t1 he
end
section
variable {w : World} {B N : Nat} {d : DiI} {σ : StI} {τ : TxI} {a b : List TxI}
theorem zve (k : Str) (h : DiIs w B N d) (hn : d.own.Nodup) (hpos : ∀ y ∈ d.own, 0 < y) (hst : d.st = some σ) (hts : σ.ts = a ++ τ :: b) (hg : Glob w) (hk : k.size <= 9223372036854775807) :
   Calls Tryz.prog 185 #[pkv d.p, pkv τ.l, .string k] w (TurnPost B N d w) := by
 obtain ⟨s, m, bytes, kM, kW, H⟩ := h
 obtain ⟨q1, q2, q3, q4, hσ⟩ := H.sok hst
 obtain ⟨hτ, t1, t2, t3, _⟩ := H.around hn hst hts
 have hdev : DkAt w s.db (.slice (some ⟨d.g, 0, none⟩) s.n (zcg bytes)) (.slice none 0 0) m := by rw [H.dk.db]; exact H.dk.dk.at_
 have hx0 : σ.x ≠ 0 := by have := hpos σ.x (by rw [DiI.own_some hst]; simp [StI.own]); omega
 refine (zuk k H.dk.at_ H.poi hdev hτ hσ.db rfl hg hx0 hk).mono ?_
 rintro e w' ⟨he, hdb, ho⟩
 exact H.at_x hn hst hts ho hdb he
theorem zok {wr done : Bool} {k v : Str} (hv : v.size <= 12) : chgN wr done k v = zbe false done true wr k := by
 unfold chgN zbe
 have h : ¬ 12 < v.size := by omega
 rw [if_neg h]
 cases done <;> cases wr <;> simp
theorem zvf {wr done : Bool} {k v : Str} (h : zbe false done true wr k ≠ 0) : chgN wr done k v = zbe false done true wr k := by
 by_cases hb : k.size < 1 \/ 8 < k.size
 . unfold chgN zbe
   rw [if_pos hb, if_pos hb]
   cases done <;> cases wr <;> simp
 . unfold chgN zbe at *
   rw [if_neg hb] at h ⊢
   rw [if_neg hb]
   cases done <;> cases wr <;> simp at h ⊢
theorem TreeV.up_all {w' : World} {T : Tree} {rp : Value} {ds : List Nat} {z : Nat} (h : TreeV (up (fun y => y < z) z) w' T rp ds) : TreeV (fun y => y < w'.heap.size) w' T rp ds :=
 h.imp id fun ⟨a, n, b, e1, e2, e3⟩ => ⟨a, n, b, e1, e2, e3.lt.more fun _ hz => hz.2⟩
theorem zku (del : Bool) (k v : Str) (h : DiIs w B N d) (hn : d.own.Nodup) (hpos : ∀ y ∈ d.own, 0 < y) (hst : d.st = some σ) (hts : σ.ts = a ++ τ :: b) (hg : Glob w) (hN : N <= 16384) (hk : k.size <= 9223372036854775807) (hv : v.size <= 9223372036854775807) :
   Calls Tryz.prog 184 #[pkv d.p, pkv τ.l, .string k, .string v, .bool del] w (TurnPost B N d w) := by
 obtain ⟨s, m, bytes, kM, kW, H⟩ := h
 obtain ⟨q1, q2, q3, q4, hσ⟩ := H.sok hst
 obtain ⟨hτ, t1, t2, t3, t4⟩ := H.around hn hst hts
 have hdev : DkAt w s.db (.slice (some ⟨d.g, 0, none⟩) s.n (zcg bytes)) (.slice none 0 0) m := by rw [H.dk.db]; exact H.dk.dk.at_
 have hdev' : DkAt w d.db (.slice (some ⟨d.g, 0, none⟩) s.n (zcg bytes)) (.slice none 0 0) m := H.dk.dk.at_
 have hx0 : σ.x ≠ 0 := by have := hpos σ.x (by rw [DiI.own_some hst]; simp [StI.own]); omega
 have hlen := hτ.len
 have hmost := hτ.most
 have hfew := hτ.few
 have hstm := hτ.st
 have hfit := hσ.fit
 obtain ⟨hd, hdk⟩ := hσ.dk
 have hst0 : 0 <= τ.st /\ τ.st <= 1000000000 := by omega
 have hno : ∀ (op : Str) (c : Nat), (c ≠ 0) -> chgN τ.wr τ.done k (if del = true then ⟨#[]⟩ else v) = c ->
    (del = true -> Calls Tryz.prog 23 #[pkv τ.t, .string k] w (zjp w σ.x ⟨σ.dk, .pointer none, 0, wrV σ.ts, σ.rd, false⟩ opDelete c)) -> (del = false -> Calls Tryz.prog 24 #[pkv τ.t, .string k, .string v] w (zjp w σ.x ⟨σ.dk, .pointer none, 0, wrV σ.ts, σ.rd, false⟩ opPut c)) ->
    Calls Tryz.prog 184 #[pkv d.p, pkv τ.l, .string k, .string v, .bool del] w (TurnPost B N d w) := fun op c hc0 hc h1 h2 => by
  refine (zpv del k v c H.dk.at_ H.poi hdev hτ hσ.db hg hx0 hk hv hc hc0 h1 h2).mono ?_
  rintro e w' ⟨he, hdb, ho⟩
  exact H.at_x hn hst hts ho hdb he
 have hyes : ∀ (T' : Tree), TR T' -> τ.wr = true -> τ.done = false -> ∀ e w', (e = .returned (.bool true) /\ zjq w w' σ.x ⟨σ.dk, .pointer none, 0, wrV σ.ts, σ.rd, false⟩ τ T') -> TurnPost B N d w e w' := by
  intro T' hTR hwr hdo e w' ⟨he, rp', dn', lv', most', hL, hT, hV, hnd, hR, hdb, hm1, hm2, ho⟩
  have hcs : ∀ c ∈ τ.cs, CuOk w' τ.t T' (τ.st + 1) c := fun c hc => by
   have hcu := hτ.cur c hc
   have hq : c.q ∈ τ.own := by simp only [TxI.own, List.mem_cons, List.mem_append, List.mem_flatMap]; exact .inr (.inr (.inr ⟨c, hc, by simp [CuI.own]⟩))
   have hcc : c.c ∈ τ.own := by simp only [TxI.own, List.mem_cons, List.mem_append, List.mem_flatMap]; exact .inr (.inr (.inr ⟨c, hc, by simp [CuI.own]⟩))
   have hx := hcu.le
   refine ⟨hcu.law.only ho (fun e => ?_), Blk.only hcu.at_ ho (fun e => ?_), ⟨hx.1, by omega⟩, fun _ e => by omega⟩
   . rcases e with e | e | e
     . exact Blk.ne_ hcu.law hτ.law (by decide) e
     . exact Blk.ne_ hcu.law hτ.tx (by decide) e
     . exact Blk.ne_ hcu.law hσ.db (by decide) e
   . rcases e with e | e | e
     . exact Blk.ne_ hcu.at_ hτ.law (by decide) e
     . exact Blk.ne_ hcu.at_ hτ.tx (by decide) e
     . exact Blk.ne_ hcu.at_ hσ.db (by decide) e
  have hcrow := zak hτ.crow ho (fun z cs hz e => by
   rcases e with e | e | e
   . subst e; exact Blk.ne_ hz hτ.law (by decide) rfl
   . subst e; exact Blk.ne_ hz hτ.tx (by decide) rfl
   . subst e; exact Blk.ne_ hz hσ.db (by decide) rfl)
  refine H.txn (τ' := { τ with st := τ.st + 1, most := most', T := T', rp := rp', dn := dn', lv := lv' }) hn hst hts ho (fun y hy => ?_) ?_ rfl ?_ ?_ ?_ ?_ (fun y hy => .inl hy) t1 he
  . rcases hy with e | e | e
    . exact .inr (.inr (by rw [e]; simp [TxI.own]))
    . exact .inr (.inr (by rw [e]; simp [TxI.own]))
    . exact .inl e
  . exact ⟨hL, by show TxAt w' τ.t ⟨σ.x, rp', T'.keys, τ.wr, τ.done, τ.st + 1⟩; rw [hwr, hdo]; exact hT, hV, hnd, hTR, hR, hm1, hm2, ⟨by show (0 : Int) <= τ.st + 1; omega, by show τ.st + 1 <= ((N + 1 : Nat) : Int); omega⟩, hcrow, hcs, by have := hτ.cn; show τ.cs.length <= N + 1; omega⟩
  . rw [zoj (τ := τ) (τ' := { τ with st := τ.st + 1, most := most', T := T', rp := rp', dn := dn', lv := lv' }) rfl rfl rfl, <- hts]; exact hdb
  . rw [zhy (τ := τ) (τ' := { τ with st := τ.st + 1, most := most', T := T', rp := rp', dn := dn', lv := lv' }) rfl rfl rfl, <- hts]
    refine hσ.rd.only ho fun e => ?_
    rcases e with e | e | e
    . exact hσ.rd.ne_blk hτ.law e
    . exact hσ.rd.ne_blk hτ.tx e
    . exact hσ.rd.ne_blk hσ.db e
  . rw [zj5 (τ := τ) (τ' := { τ with st := τ.st + 1, most := most', T := T', rp := rp', dn := dn', lv := lv' }) rfl rfl rfl, <- hts]; exact hσ.one
  . rw [zhy (τ := τ) (τ' := { τ with st := τ.st + 1, most := most', T := T', rp := rp', dn := dn', lv := lv' }) rfl rfl rfl, <- hts]; exact hσ.four
 cases del with
 | true =>
   have hD := znu τ.t σ.x τ.rp τ.T τ.dn τ.wr τ.done τ.st ⟨σ.dk, .pointer none, 0, wrV σ.ts, σ.rd, false⟩ k w hτ.tx hσ.db hτ.tree hτ.nd hτ.tr (by omega) (by omega) hst0.1 hst0.2
   have hc := zok (wr := τ.wr) (done := τ.done) (k := k) (v := ⟨#[]⟩) (by decide)
   by_cases h0 : zbe false τ.done true τ.wr k = 0
   . have hwd : τ.wr = true /\ τ.done = false := by
       unfold zbe at h0
       cases hw : τ.wr <;> cases hd' : τ.done <;> simp [hw, hd'] at h0 ⊢
     rw [hwd.1, hwd.2] at hc h0 hD
     obtain ⟨lp, ll⟩ := zpy hτ.tr.tw (k := k)
     refine (znx (N := N) (B := B) (S := ⟨σ.dk, .pointer none, 0, wrV σ.ts, σ.rd, false⟩) k v (τ.T.delete k) H.dk.at_ H.poi hdev hτ hσ.db hN hwd.1 hwd.2 hk hv (hc.trans h0) lp (by omega) ?_).mono (hyes _ (hτ.tr.delete k) hwd.1 hwd.2)
     refine hD.mono ?_
     rintro e w1 ⟨v1, rfl, ha, hdb, _, hch, ho⟩
     obtain ⟨rp', ds', hT', hV', hnd', _⟩ := hch h0
     rw [ha.nil h0]
     exact ⟨rfl, hdb, ⟨rp', ds', hT', hV'.up_all, hnd'⟩, ho⟩
   . refine hno opDelete (zbe false τ.done true τ.wr k) h0 hc (fun _ => ?_) (fun h => by cases h)
     refine hD.mono ?_
     rintro e w1 ⟨v1, rfl, ha, hdb, hx, _, _⟩
     obtain ⟨f, rfl, hf⟩ := ha.fault h0
     exact ⟨f, rfl, hf, hdb, (hx h0).2⟩
 | false =>
   have hbel : ∀ {c : Nat} {e : Ending} {w1 : World}, (∃ f, e = .returned (zag f) /\ zao w1 f opPut c /\ Below w.heap.size w w1) -> zjp w σ.x ⟨σ.dk, .pointer none, 0, wrV σ.ts, σ.rd, false⟩ opPut c e w1 := fun ⟨f, he, hf, hb⟩ => ⟨f, he, hf, Blk.below hσ.db hb (Blk.lt hσ.db), Only.of_below hb⟩
   by_cases h0 : zbe false τ.done true τ.wr k = 0
   . have hwd : τ.wr = true /\ τ.done = false := by
       unfold zbe at h0
       cases hw : τ.wr <;> cases hd' : τ.done <;> simp [hw, hd'] at h0 ⊢
     have hok : zck k := by
      unfold zbe at h0
      rw [hwd.1, hwd.2, if_neg (by simp), if_neg (by simp), if_neg (by simp)] at h0
      unfold zck
      by_cases hb : k.size < 1 \/ 8 < k.size
      . rw [if_pos hb] at h0
        cases h0
      . omega
     by_cases hv12 : v.size <= 12
     . have hc := zok (wr := τ.wr) (done := τ.done) (k := k) (v := v) hv12
       obtain ⟨pp, pl⟩ := zuo hτ.tr.tw (v := v) hok hv12
       have hkeys := hτ.tr.tw.keys_
       have h0' := h0
       rw [hwd.1, hwd.2] at hc h0
       by_cases hroom : (τ.T.get k).isSome = true \/ (τ.T.keys : Int) < zdm s.n
       . have hl140 : (τ.T.put k v).pairs.length <= 140 := by
           rw [pp, pl]
           rcases hroom with hr | hr
           . rw [if_pos hr]; omega
           . have := zup hr hfit
             split <;> omega
         refine (znw (N := N) (B := B) (S := ⟨σ.dk, .pointer none, 0, wrV σ.ts, σ.rd, false⟩) k v (τ.T.put k v) H.dk.at_ H.poi hdev hτ hσ.db hN hwd.1 hwd.2 hk hv (hc.trans h0) pp hl140 ?_).mono (hyes _ (hτ.tr.put hok hv12) hwd.1 hwd.2)
         refine (zuf τ.t σ.x τ.rp τ.T τ.dn τ.wr τ.done τ.st ⟨σ.dk, .pointer none, 0, wrV σ.ts, σ.rd, false⟩ k v w hτ.tx hσ.db hτ.tree hτ.nd hτ.tr (by omega) hok hv12 hst0.1 hst0.2 h0' d.db s.n (zcg bytes) hd (some ⟨d.g, 0, none⟩) (.slice none 0 0) m hdk hdev' (by omega) hroom).mono ?_
         rintro e w1 ⟨rfl, hdb, hch, ho⟩
         obtain ⟨rp', ds', hT', hV', hnd', _⟩ := hch
         rw [hwd.1, hwd.2] at hT'
         exact ⟨rfl, hdb, ⟨rp', ds', hT', hV'.up_all, hnd'⟩, ho⟩
       . have hget : τ.T.get k = none := by
           cases hgg : τ.T.get k with
           | none => rfl
           | some u => exact absurd (.inl (by rw [hgg]; rfl)) hroom
         have hrm : zdm s.n <= (τ.T.keys : Int) := by
          by_cases hk : (τ.T.keys : Int) < zdm s.n
          . exact absurd (.inr hk) hroom
          . exact Int.not_lt.1 hk
         have hrg := zuq hrm
         have hpl : (zcp k v τ.T.pairs).length = τ.T.pairs.length + 1 := by rw [pl, hget]; rfl
         have hkf : KF (fun _ => False) w := fun _ _ _ _ _ => id
         obtain ⟨hrow, heach⟩ := hσ.parts (fp := fun _ => False) (Only.of_below (Below.refl _ _)) hkf (fun _ _ => id)
         refine (zla (x := σ.x) (B := B) (N := N) (ts := σ.ts) k v H.dk.at_ H.poi q3 q2 hdev hτ (by rw [q4]; exact RowL.of hrow heach) (by have := hσ.len; omega) hwd.1 hwd.2 hg hk hv (hc.trans h0) (by omega) (by rw [hpl]; omega) (by rw [hpl]; omega) ?_).mono (fun e w' he => TurnPost.same ⟨s, m, bytes, kM, kW, H⟩ hn he.2 he.1)
         exact zpo τ.t σ.x τ.rp τ.T τ.dn τ.wr τ.done τ.st ⟨σ.dk, .pointer none, 0, wrV σ.ts, σ.rd, false⟩ k v w hτ.tx hσ.db hτ.tree hτ.tr (by omega) hok hv12 h0' d.db s.n (zcg bytes) hd (some ⟨d.g, 0, none⟩) (.slice none 0 0) m hdk hdev' (by omega) hget hrm
     . refine hno opPut 2 (by decide) ?_ (fun h => by cases h) (fun _ => ?_)
       . show chgN τ.wr τ.done k v = 2
         unfold chgN
         unfold zck at hok
         rw [hwd.1, hwd.2, if_neg (show ¬ false = true by simp), if_neg (show ¬ (!true) = true by simp), if_neg (show ¬ (k.size < 1 \/ 8 < k.size) by omega), if_pos (show 12 < v.size by omega)]
       . exact (zsz τ.t σ.x (τ.tx σ.x) ⟨σ.dk, .pointer none, 0, wrV σ.ts, σ.rd, false⟩ k v w hτ.tx hσ.db rfl (by omega) h0 (by omega)).mono fun e w1 he => hbel he
   . refine hno opPut (zbe false τ.done true τ.wr k) h0 ?_ (fun h => by cases h) (fun _ => ?_)
     . exact zvf h0
     . exact (zug τ.t σ.x (zbe false τ.done true τ.wr k) (τ.tx σ.x) ⟨σ.dk, .pointer none, 0, wrV σ.ts, σ.rd, false⟩ k v w hτ.tx hσ.db rfl (by omega) rfl h0).mono fun e w1 he => hbel he
end
section
variable {w w' : World} {x B N : Nat} {τ : TxI}
theorem TxI.own_parts (h : τ.own.Nodup) : (τ.csv.ownBlock.toList ++ τ.cs.flatMap CuI.own).Nodup /\ (∀ y ∈ τ.csv.ownBlock.toList ++ τ.cs.flatMap CuI.own, y ≠ τ.l /\ y ≠ τ.t) := by
 unfold TxI.own at h
 simp only [List.nodup_cons, List.mem_cons, not_or] at h
 exact ⟨h.2.2, fun y hy => ⟨fun e => h.1.2 (e ▸ hy), fun e => h.2.1 (e ▸ hy)⟩⟩
theorem TxOk.upd {dd : Bool} {fp : Nat -> Prop} (h : TxOk w x B N τ) (ho : Only fp w w') (hk : KF fp w) (hf : ∀ y ∈ τ.csv.ownBlock.toList ++ τ.cs.flatMap CuI.own, ¬ fp y) (hL : zeg w' { τ with done := dd }) (hT : TxAt w' τ.t ⟨x, τ.rp, τ.T.keys, τ.wr, dd, τ.st⟩) : TxOk w' x B (N + 1) { τ with done := dd } :=
 ⟨hL, hT, h.tree.size ho hk, h.nd, h.tr, h.row.only ho (fun z cs hz => hk z _ cs hz (by decide)), h.few, h.most, ⟨h.st.1, by have := h.st; show τ.st <= ((N + 1 : Nat) : Int); omega⟩, za2 h.crow ho (fun g hg => hf g (by simp [hg])), fun c hc => (h.cur c hc).only ho fun y hy => hf y (by rw [List.mem_append]; exact .inr (List.mem_flatMap.2 ⟨c, hc, hy⟩)), by have := h.cn; show τ.cs.length <= N + 1; omega⟩
end
section
variable {w : World} {B N : Nat} {d : DiI} {σ : StI} {τ : TxI} {a b : List TxI}
theorem ztc (h : DiIs w B N d) (hn : d.own.Nodup) (hst : d.st = some σ) (hts : σ.ts = a ++ τ :: b) (hg : Glob w) :
   Calls Tryz.prog 187 #[pkv d.p, pkv τ.l, .bool false] w (TurnPost B N d w) := by
 obtain ⟨s, m, bytes, kM, kW, H⟩ := h
 obtain ⟨q1, q2, q3, q4, hσ⟩ := H.sok hst
 obtain ⟨hτ, t1, t2, t3, t4⟩ := H.around hn hst hts
 have hdev : DkAt w s.db (.slice (some ⟨d.g, 0, none⟩) s.n (zcg bytes)) (.slice none 0 0) m := by rw [H.dk.db]; exact H.dk.dk.at_
 cases hdo : τ.done with
 | true =>
   refine (zta H.dk.at_ H.poi hdev hτ.law hdo hg ?_).mono (fun e w' he => TurnPost.same ⟨s, m, bytes, kM, kW, H⟩ hn he.2 he.1)
   refine zs8 τ.t σ.x 5 (τ.tx σ.x) ⟨σ.dk, .pointer none, 0, wrV σ.ts, σ.rd, false⟩ w hτ.tx hσ.db rfl ?_ (by decide)
   show mayC false τ.done false τ.wr = 5
   rw [hdo]; rfl
 | false =>
   have htn : ∀ e, e ∈ a \/ e ∈ b -> e.t ≠ τ.t := fun e he k => by
    refine t4 e.t ?_ (by rw [k]; simp [TxI.own])
    rw [List.mem_append]
    rcases he with he | he
    . exact .inl (List.mem_flatMap.2 ⟨e, he, by simp [TxI.own]⟩)
    . exact .inr (List.mem_flatMap.2 ⟨e, he, by simp [TxI.own]⟩)
   have hra : ∀ l : List TxI, (∀ e ∈ l, e.t ≠ τ.t) -> ¬ τ.t ∈ rdL l := fun l hl k => by
    unfold rdL at k
    obtain ⟨e, he, h2⟩ := List.mem_map.1 k
    exact hl e (List.mem_filter.1 he).1 h2
   have ha : ¬ τ.t ∈ rdL a := hra a fun e he => htn e (.inl he)
   have hb : ¬ τ.t ∈ rdL b := hra b fun e he => htn e (.inr he)
   have e0 : ∀ τ2 : TxI, σ.ts = a ++ τ :: b -> wrL (a ++ τ2 :: b) = wrL a ++ (wrL [τ2] ++ wrL b) /\ rdL (a ++ τ2 :: b) = rdL a ++ (rdL [τ2] ++ rdL b) := fun τ2 _ => by
    rw [show a ++ τ2 :: b = a ++ ([τ2] ++ b) by simp, zhv, zhv, zhw, zhw]
    exact ⟨rfl, rfl⟩
   have w1 : wrL [{ τ with done := true }] = [] := by simp [wrL]
   have r1 : rdL [{ τ with done := true }] = [] := by simp [rdL]
   have w0 : wrL [τ] = if τ.wr = true then [τ.t] else [] := by cases hw : τ.wr <;> simp [wrL, hw, hdo]
   have r0 : rdL [τ] = if τ.wr = true then [] else [τ.t] := by cases hw : τ.wr <;> simp [rdL, hw, hdo]
   have hone := hσ.one
   have hfour := hσ.four
   obtain ⟨ew, er⟩ := e0 τ hts
   obtain ⟨ew', er'⟩ := e0 { τ with done := true } hts
   rw [hts, ew, w0] at hone
   rw [hts, er, r0] at hfour
   have hwv : wrV (a ++ { τ with done := true } :: b) = if τ.wr = true then .pointer none else wrV σ.ts := by
    unfold wrV
    rw [ew', w1, hts, ew, w0]
    cases hw : τ.wr with
    | true =>
      rw [hw] at hone
      simp only [if_true, List.length_append, List.length_cons, List.length_nil] at hone
      have h1 : wrL a = [] := List.length_eq_zero_iff.1 (by omega)
      have h2 : wrL b = [] := List.length_eq_zero_iff.1 (by omega)
      rw [h1, h2]; rfl
    | false => simp
   have hrv : rdL (a ++ { τ with done := true } :: b) = (rdL σ.ts).erase τ.t := by
    rw [er', r1, hts, er, r0]
    cases hw : τ.wr with
    | true =>
      simp only [if_true, List.nil_append]
      rw [List.erase_of_not_mem (by rw [List.mem_append]; rintro (k | k); exact ha k; exact hb k)]
    | false =>
      rw [if_neg (by simp), List.erase_append_right _ ha]
      simp
   have hk : ∀ k ∈ rdL σ.ts, TxB w k := fun k hk => by
    unfold rdL at hk
    obtain ⟨e, he, rfl⟩ := List.mem_map.1 hk
    exact (hσ.each e (List.mem_filter.1 he).1).txb
   refine (zs9 (S' := ⟨σ.dk, .pointer none, 0, if τ.wr = true then .pointer none else wrV σ.ts, σ.rd, false⟩) (ks' := (rdL σ.ts).erase τ.t) H.dk.at_ H.poi hdev hτ hσ.db hσ.rd hdo ?_).mono ?_
   . refine (zkc τ.t σ.x (τ.tx σ.x) ⟨σ.dk, .pointer none, 0, wrV σ.ts, σ.rd, false⟩ (rdL σ.ts) w hτ.tx hσ.db rfl hσ.rd hk ?_).mono ?_
     . show mayC false τ.done false τ.wr = 0
       rw [hdo]; rfl
     . rintro e w1 ⟨rfl, hT, hD, hR, ho⟩
       exact ⟨rfl, hT, hD, hR, ho⟩
   . rintro e w' ⟨he, hL, hT, hD, hR, ho⟩
     obtain ⟨p1, p2⟩ := TxI.own_parts t1
     have hfo : ∀ y, (y = τ.l \/ y = τ.t \/ y = σ.x \/ y = σ.rd) -> y = σ.x \/ y = σ.rd \/ y ∈ τ.own := fun y hy => by
      rcases hy with e | e | e | e
      . exact .inr (.inr (by rw [e]; simp [TxI.own]))
      . exact .inr (.inr (by rw [e]; simp [TxI.own]))
      . exact .inl e
      . exact .inr (.inl e)
     have hkf : KF (fun y => y = τ.l \/ y = τ.t \/ y = σ.x \/ y = σ.rd) w := KF.of fun y hy => hσ.own y (by
      rw [StI.mid hts]
      rcases hfo y hy with e | e | e
      . rw [e]; simp
      . rw [e]; simp
      . simp [e])
     have hup : TxOk w' σ.x B (N + 1) { τ with done := true } := hτ.upd ho hkf (fun y hy e => by
      rcases e with e | e | e | e
      . exact (p2 y hy).1 e
      . exact (p2 y hy).2 e
      . exact t2 (by rw [<- e]; simp only [TxI.own, List.mem_cons]; exact .inr (.inr hy))
      . exact t3 (by rw [<- e]; simp only [TxI.own, List.mem_cons]; exact .inr (.inr hy))) hL hT
     refine H.txn (τ' := { τ with done := true }) hn hst hts ho hfo hup rfl ?_ ?_ ?_ ?_ (fun y hy => .inl hy) t1 he
     . rw [hwv]; exact hD
     . rw [hrv]; exact hR
     . rw [ew', w1]
       simp only [List.nil_append, List.length_append] at hone ⊢
       omega
     . rw [er', r1]
       simp only [List.nil_append, List.length_append] at hfour ⊢
       omega
theorem zrf (h : DiIs w B N d) (hn : d.own.Nodup) (hst : d.st = some σ) (hts : σ.ts = a ++ τ :: b) (hg : Glob w) (hN : N <= 16384) (hwB : B <= w.heap.size) :
   Calls Tryz.prog 188 #[pkv d.p, pkv τ.l] w (TurnPost B N d w) := by
 obtain ⟨s, m, bytes, kM, kW, H⟩ := h
 obtain ⟨q1, q2, q3, q4, hσ⟩ := H.sok hst
 obtain ⟨hτ, t1, t2, t3, t4⟩ := H.around hn hst hts
 obtain ⟨qq, hqq⟩ := hτ.tree.ptr
 have hC := zpp τ.t σ.x (τ.tx σ.x) ⟨σ.dk, .pointer none, 0, wrV σ.ts, σ.rd, false⟩ w hτ.tx hσ.db rfl qq hqq
 cases hdo : τ.done with
 | true =>
   have hm : mayC false (τ.tx σ.x).done false (τ.tx σ.x).write = 5 := by show mayC false τ.done false τ.wr = 5; rw [hdo]; rfl
   refine (zpx H.dk.at_ H.poi hτ.law hdo hg ?_).mono (fun e w' he => TurnPost.same ⟨s, m, bytes, kM, kW, H⟩ hn he.2 he.1)
   refine hC.mono ?_
   rintro e w1 ⟨hb, h1 | ⟨_, f, h1, h2, _⟩⟩
   . exact absurd (hm.symm.trans h1.1) (by decide)
   . exact ⟨hb, f, h1, by rw [<- hm]; exact h2⟩
 | false =>
   have hm : mayC false (τ.tx σ.x).done false (τ.tx σ.x).write = 0 := by show mayC false τ.done false τ.wr = 0; rw [hdo]; rfl
   refine (zpw H.dk.at_ H.poi hτ hdo hN hwB ?_).mono ?_
   . refine hC.mono ?_
     rintro e w1 ⟨hb, ⟨_, h1⟩ | ⟨h1, _⟩⟩
     . exact ⟨hb, h1⟩
     . exact absurd hm h1
   . rintro e w' ⟨he, q, c, csv', hq, hc, hrow, hblk, hL, hqz, hcz, ho⟩
     obtain ⟨p1, p2⟩ := TxI.own_parts t1
     have hfo : ∀ y, (y = τ.l \/ some y = τ.csv.ownBlock) -> y = σ.x \/ y = σ.rd \/ y ∈ τ.own := fun y hy => by
      rcases hy with e | e
      . exact .inr (.inr (by rw [e]; simp [TxI.own]))
      . exact .inr (.inr (by simp [TxI.own, <- e]))
     have hkf : KF (fun y => y = τ.l \/ some y = τ.csv.ownBlock) w := KF.of fun y hy => hσ.own y (by
      rw [StI.mid hts]
      rcases hfo y hy with e | e | e
      . rw [e]; simp
      . rw [e]; simp
      . simp [e])
     have hgq : csv'.ownBlock ≠ some q := zae hrow hq (by decide)
     have hgc : csv'.ownBlock ≠ some c := zae hrow hc (by decide)
     have hqc : q ≠ c := Blk.ne_ hq hc (by decide)
     have hlt : ∀ y ∈ τ.own, y < w.heap.size := fun y hy => (hτ.own y hy).lt
     have hmb : ∀ c ∈ τ.cs, ∀ y ∈ c.own, y ∈ τ.cs.flatMap CuI.own := fun c hc y hy => List.mem_flatMap.2 ⟨c, hc, hy⟩
     have hcn : ∀ y ∈ τ.cs.flatMap CuI.own, ¬ (y = τ.l \/ some y = τ.csv.ownBlock) := fun y hy e => by
      rcases e with e | e
      . exact (p2 y (by simp only [List.mem_append]; exact .inr hy)).1 e
      . exact (List.nodup_append.1 p1).2.2 y (by simp [<- e]) y hy rfl
     obtain ⟨τ', hτ'⟩ : ∃ τ' : TxI, τ' = { τ with csv := csv', cs := τ.cs ++ [⟨q, c, ⟨#[]⟩, false, 0⟩] } := ⟨_, rfl⟩
     have hown' : τ'.own = τ.l :: τ.t :: (csv'.ownBlock.toList ++ τ.cs.flatMap CuI.own ++ [q, c]) := by
      rw [hτ']
      unfold TxI.own
      rw [List.flatMap_append]
      simp [CuI.own]
     have hup : TxOk w' σ.x B (N + 1) τ' := by
      rw [hτ']
      have hst := hτ.st
      have hl : τ.t ≠ τ.l := Blk.ne_ hτ.tx hτ.law (by decide)
      refine ⟨hL, Blk.only hτ.tx ho (fun e => ?_), hτ.tree.size ho hkf, hτ.nd, hτ.tr, hτ.row.only ho (fun z cs hz => hkf z _ cs hz (by decide)), hτ.few, hτ.most, ⟨hst.1, by show τ.st <= ((N + 1 : Nat) : Int); omega⟩, ?_, ?_, ?_⟩
      . rcases e with e | e
        . exact hl e
        . exact zae hτ.crow hτ.tx (by decide) e.symm
      . show w'.ownsRow B 279 1 csv' (τ.cs ++ [(⟨q, c, ⟨#[]⟩, false, 0⟩ : CuI)]).length ((τ.cs ++ [(⟨q, c, ⟨#[]⟩, false, 0⟩ : CuI)]).map fun c => pkv c.q)
        rw [List.length_append, List.map_append]
        exact hrow
      . intro c2 hc2
        rcases List.mem_append.1 hc2 with k | k
        . exact (hτ.cur c2 k).only ho fun y hy => hcn y (hmb c2 k y hy)
        . rw [List.mem_singleton.1 k]
          exact ⟨hq, hc, ⟨Int.le_refl _, hst.1⟩, fun h => by (cases h)⟩
      . show (τ.cs ++ [(⟨q, c, ⟨#[]⟩, false, 0⟩ : CuI)]).length <= N + 1
        have := hτ.cn
        rw [List.length_append]
        simp only [List.length_cons, List.length_nil]
        omega
     have m1 : τ'.wr = τ.wr := by rw [hτ']
     have m2 : τ'.done = τ.done := by rw [hτ']
     have m3 : τ'.t = τ.t := by rw [hτ']
     refine H.txn (τ' := τ') hn hst hts ho hfo hup (by rw [hτ']) ?_ ?_ ?_ ?_ ?_ ?_ he
     . rw [zoj m1 m2 m3, <- hts]
       refine Blk.only hσ.db ho fun e => ?_
       rcases e with e | e
       . exact Blk.ne_ hσ.db hτ.law (by decide) e
       . exact zae hτ.crow hσ.db (by decide) e.symm
     . rw [zhy m1 m2 m3, <- hts]
       refine hσ.rd.only ho fun e => ?_
       rcases e with e | e
       . exact hσ.rd.ne_blk hτ.law e
       . obtain ⟨_, _, _, _, _, hr, _⟩ := zad hτ.crow
         obtain ⟨_, _, _, cur, hb, _⟩ := hr _ e.symm
         exact hσ.rd.ne_blk hb rfl
     . rw [zj5 m1 m2 m3, <- hts]; exact hσ.one
     . rw [zhy m1 m2 m3, <- hts]; exact hσ.four
     . intro y hy
       rw [hown'] at hy
       simp only [List.mem_cons, List.mem_append, List.not_mem_nil, or_false] at hy
       simp only [TxI.own, List.mem_cons, List.mem_append]
       rcases hy with k | k | (k | k) | k | k
       . exact .inl (.inl k)
       . exact .inl (.inr (.inl k))
       . rw [Option.mem_toList] at k
         rcases hblk y k with e | e
         . exact .inl (.inr (.inr (.inl (by rw [Option.mem_toList]; exact e))))
         . exact .inr e
       . exact .inl (.inr (.inr (.inr k)))
       . exact .inr (by omega)
       . exact .inr (by omega)
     . rw [hown']
       have h1 : ([τ.l, τ.t] ++ csv'.ownBlock.toList ++ τ.cs.flatMap CuI.own).Nodup := by
        refine zdw (F := τ.csv.ownBlock.toList) (z := w.heap.size) ?_ ?_ ?_ ?_
        . rw [List.append_assoc]; exact t1
        . intro y hy; rw [List.append_assoc] at hy; exact hlt y hy
        . cases csv'.ownBlock <;> simp
        . intro y hy
          rw [Option.mem_toList] at hy
          rcases hblk y hy with e | e
          . exact .inl (by rw [Option.mem_toList]; exact e)
          . exact .inr e
       have e : τ.l :: τ.t :: (csv'.ownBlock.toList ++ τ.cs.flatMap CuI.own ++ [q, c]) = ([τ.l, τ.t] ++ csv'.ownBlock.toList ++ τ.cs.flatMap CuI.own) ++ [q, c] := by simp
       rw [e]
       refine List.nodup_append.2 ⟨h1, by simp [hqc], fun y hy z hz k => ?_⟩
       subst k
       simp only [List.mem_cons, List.mem_append, List.not_mem_nil, or_false] at hy hz
       have hyl : w.heap.size <= y := by rcases hz with k | k <;> omega
       rcases hy with ((k | k) | k) | k
       . have := hlt y (by rw [k]; simp [TxI.own]); omega
       . have := hlt y (by rw [k]; simp [TxI.own]); omega
       . rw [Option.mem_toList] at k
         rcases hz with z | z
         . exact hgq (z ▸ k)
         . exact hgc (z ▸ k)
       . have := hlt y (by simp only [TxI.own, List.mem_cons, List.mem_append]; exact .inr (.inr (.inr k))); omega
end
end Go.Proofs.YtemondlgcmpbbaaGreatDoor
