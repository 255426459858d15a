/- Zj Zk Cv Cw: merged. -/
import Derived.Test.YtemondlgcmpbbaaGreatDoorMV31
import Derived.Test.YtemondlgcmpbbaaGreatDoorMV26
import Derived.Deep.RegionHeld3
namespace Go.Proofs.YtemondlgcmpbbaaGreatDoor
open Go.RowKit
set_option maxRecDepth 100000
def zyn (w w' : World) (x rd : Nat) (τ : TxI) (S' : DbS) (ks' : List Nat) : Prop :=
 zeq w' { τ with done := true } /\ TxAt w' τ.t (τ.tx x).over /\ DbAt w' x S' /\ RdAt w' rd ks' /\ Only (fun y => y = τ.l \/ y = τ.t \/ y = x \/ y = rd) w w'
section
variable {w : World} {B N p x rd : Nat} {s : LdS} {bv cv : Value} {m : Nums} {τ : TxI} {S S' : DbS} {ks' : List Nat}
set_option maxHeartbeats 4000000 in
theorem zvs (hl : LdAt w p s) (hpoi : s.poi = false) (hdev : DkAt w s.db bv cv m) (hτ : TxOk w x B N τ) (hD : DbAt w x S) {ks : List Nat} (hR : RdAt w rd ks) (hdo : τ.done = false)
   (hab : Calls Tryz.prog 27 #[pkv τ.t] w fun e w1 => e = .returned .nilIface /\ TxAt w1 τ.t (τ.tx x).over /\ DbAt w1 x S' /\ RdAt w1 rd ks' /\ Only (fun y => y = τ.t \/ y = x \/ y = rd) w w1) :
   Calls Tryz.prog 187 #[pkv p, pkv τ.l, .bool false] w fun e w' => e = .returned (.bool true) /\ zyn w w' x rd τ S' ks' := by
 have hne : ∀ {y : Nat} {T : TypeId} {cs : Array Value}, Blk w y T cs -> T ≠ 94 -> T ≠ 91 -> ¬ (y = τ.t \/ y = x \/ y = rd) := fun hy h1 h2 e => by
  rcases e with e | e | e
  . subst e; exact Blk.ne_ hy hτ.tx h1 rfl
  . subst e; exact Blk.ne_ hy hD h2 rfl
  . exact hR.ne_blk hy e.symm
 have hrl : rd ≠ τ.l := hR.ne_blk hτ.law
 have hlt : τ.l ≠ τ.t := Blk.ne_ hτ.law hτ.tx (by decide)
 have hlx : τ.l ≠ x := Blk.ne_ hτ.law hD (by decide)
 have hlaw := hτ.law
 obtain ⟨l, t, wr, done, st, most, T, rp, dn, lv, csv, cs⟩ := τ
 obtain ⟨db, n, may, emp, were, wild, bit, xv, cc, commits, poi, ts, lists, want⟩ := s
 simp only at hpoi hdev hdo hab hrl hlt hlx hlaw hne
 subst hpoi hdo
 have HT := zaa (zbn db bv cv m w hdev)
 have HWR := zaa (zfp db bv cv m w hdev)
 have t0 := (zcb hlaw).1
 have k0 := (zaq hl).1
 have HL := zaa (fun W (ho : Only (fun y => y = t \/ y = x \/ y = rd) w W) => Blk.only hl ho (hne hl (by decide) (by decide)))
 have HLT := zaa (fun W (ho : Only (fun y => y = t \/ y = x \/ y = rd) w W) => Blk.only hlaw ho (hne hlaw (by decide) (by decide)))
 have HDV := zaa (fun W (ho : Only (fun y => y = t \/ y = x \/ y = rd) w W) => zfp db bv cv m W (Blk.only hdev ho (hne hdev (by decide) (by decide))))
 have HAB := zaa hab
 have e0 : m.writes - m.writes = 0 := by omega
 have e1 : IntKind.i64.wrap (m.writes - m.writes) = 0 := by rw [e0]; rfl
 unfold pkv at *
 clear hτ hl hD hR hdev hab hlaw
 go_enter Tryz.func187, Tryz.ntmps187
 go_wp2_with (first
  | (go_at_call 178; refine HT.out.mono ?_; rintro e w' ⟨rfl, rfl⟩)
  | (go_at_call 25; (refine (HDV1.out).mono ?_); rintro e w' ⟨rfl, rfl⟩)
  | (go_at_call 25; refine HWR.out.mono ?_; rintro e w' ⟨rfl, rfl⟩)
  | (go_at_call 27; go_loud (
     refine HAB.out.mono ?_; rintro e w1 ⟨rfl, hT1, hD1, hR1, ho1⟩
     have hl1 := HL.out w1 ho1
     have hlt1 := HLT.out w1 ho1
     have HDV1 := zaa (HDV.out w1 ho1)
     have m0 := (zaq hl1).1
     have m10 := (zbq hl1).2.2.2.1
     have q2 : w1.cell? ⟨l, 2, none⟩ = some (.bool wr) := zab hlt1 2 rfl
     have q3 : w1.cell? ⟨l, 3, none⟩ = some (.bool false) := zab hlt1 3 rfl
     have z3 : w1.frozen? ⟨l, 3, none⟩ = false := Blk.frozen hlt1 3
     have HLT1 := zaa hlt1
     have HT1 := zaa hT1
     have HD1 := zaa hD1
     have HR1 := zaa hR1
     have HO1 := zaa ho1
     clear hl1 hlt1 hT1 hD1 hR1 ho1 t0 k0))
  | (go_at_call 30; refine (zbg _).mono ?_; rintro e w' ⟨rfl, rfl⟩)
  | (go_at_call 179; refine (zar _ _).mono ?_; rintro e w' ⟨rfl, rfl⟩))
 all_goals (
  go_ret
  have ho2 : Only (· = l) w1 (w1.setCell ⟨l, 3, none⟩ (.bool true)) := Only.set1 _ _ _ _
  refine ⟨rfl, HLT1.out.set_ 3 _, Blk.only HT1.out ho2 (fun e => hlt e.symm), Blk.only HD1.out ho2 (fun e => hlx e.symm), HR1.out.only ho2 hrl, ?_⟩
  exact (HO1.out.mono fun y _ hy => .inr hy).trans (ho2.mono fun y _ hy => .inl hy))
set_option maxHeartbeats 4000000 in
theorem zvt (hl : LdAt w p s) (hpoi : s.poi = false) (hdev : DkAt w s.db bv cv m) (hτ : zeq w τ) (hdo : τ.done = true) (hg : Glob w)
   (hab : Calls Tryz.prog 27 #[pkv τ.t] w fun e w1 => ∃ f, e = .returned (zad f) /\ zaj w1 f zis 5 /\ w.heap.size <= f /\ Below w.heap.size w w1) :
   Calls Tryz.prog 187 #[pkv p, pkv τ.l, .bool false] w fun e w' => e = .returned (.bool true) /\ Below w.heap.size w w' := by
 obtain ⟨l, t, wr, done, st, most, T, rp, dn, lv, csv, cs⟩ := τ
 obtain ⟨db, n, may, emp, were, wild, bit, xv, cc, commits, poi, ts, lists, want⟩ := s
 simp only at hpoi hdev hdo hab
 subst hpoi hdo
 have HT := zaa (zbn db bv cv m w hdev)
 have HWR := zaa (zfp db bv cv m w hdev)
 have t0 := (zcb hτ).1
 have k0 := (zaq hl).1
 have HL := zaa (fun W (hb : Below w.heap.size w W) => Blk.below hl hb hl.lt)
 have HLT := zaa (fun W (hb : Below w.heap.size w W) => Blk.below hτ hb (Blk.lt hτ))
 have HDV := zaa (fun W (hb : Below w.heap.size w W) => zfp db bv cv m W (Blk.below hdev hb (Blk.lt hdev)))
 have HG := zaa (fun W (hb : Below w.heap.size w W) => hg.only (fp := fun _ => False) (Only.of_below hb) id)
 have HAB := zaa hab
 have e0 : m.writes - m.writes = 0 := by omega
 have e1 : IntKind.i64.wrap (m.writes - m.writes) = 0 := by rw [e0]; rfl
 unfold pkv at *
 clear hτ hl hdev hab hg
 go_enter Tryz.func187, Tryz.ntmps187
 go_wp2_with (first
  | (go_at_call 178; refine HT.out.mono ?_; rintro e w' ⟨rfl, rfl⟩)
  | (go_at_call 25; (refine (HDV2.out).mono ?_); rintro e w' ⟨rfl, rfl⟩)
  | (go_at_call 25; refine HWR.out.mono ?_; rintro e w' ⟨rfl, rfl⟩)
  | (go_at_call 27; go_loud (
     refine HAB.out.mono ?_; rintro e w1 ⟨f, rfl, hf, _, hb1⟩
     have HTF := zaa (za9 f 5 _ w1 hf (HG.out w1 hb1))
     have HB1 := zaa hb1
     clear hf hb1 t0 k0
     unfold zad at HTF
     unfold zad))
  | (go_at_call 30; go_loud (
     refine HTF.out.mono ?_; rintro e w2 ⟨rfl, hb2⟩
     have hb := HB1.out.trans (hb2.mono HB1.out.size)
     have hl1 := HL.out w2 hb
     have hlt1 := HLT.out w2 hb
     have HDV2 := zaa (HDV.out w2 hb)
     have m0 := (zaq hl1).1
     have m10 := (zbq hl1).2.2.2.1
     have q3 : w2.cell? ⟨l, 3, none⟩ = some (.bool true) := zab hlt1 3 rfl
     have HB := zaa hb
     clear hl1 hlt1 hb hb2))
  | (go_at_call 179; refine (zar _ _).mono ?_; rintro e w' ⟨rfl, rfl⟩))
 all_goals (go_ret; exact ⟨rfl, HB.out⟩)
end
theorem zvu : (Tryz.prog.info? 279).map (fun i => (i.zero, i.size, i.bytes)) = some (some (.pointer none), 1, 8) := by kernel_rfl
def zyo (w w' : World) (B : Nat) (τ : TxI) : Prop :=
 ∃ q c csv', Blk w' q 302 #[.pointer (some ⟨c, 0, none⟩), .string ⟨#[]⟩, .bool false, .int .i64 0] /\ zbj w' c τ.t ⟨#[]⟩ false 0 /\ w'.ownsRow B 279 1 csv' (τ.cs.length + 1) ((τ.cs.map fun c => pkv c.q) ++ [pkv q]) /\
   (∀ g, csv'.ownBlock = some g -> τ.csv.ownBlock = some g \/ w.heap.size <= g) /\ zeq w' { τ with csv := csv' } /\ w.heap.size <= q /\ w.heap.size <= c /\ Only (fun y => y = τ.l \/ some y = τ.csv.ownBlock) w w'
section
variable {w : World} {B N p x : Nat} {s : LdS} {τ : TxI}
set_option maxHeartbeats 4000000 in
theorem zrx (hl : LdAt w p s) (hpoi : s.poi = false) (hτ : TxOk w x B N τ) (hdo : τ.done = false) (hN : N <= 16384) (hwB : B <= w.heap.size)
   (hcu : Calls Tryz.prog 42 #[pkv τ.t] w fun e w1 => Below w.heap.size w w1 /\ ∃ c, e = .returned (.tuple #[.pointer (some ⟨c, 0, none⟩), .nilIface]) /\ zbj w1 c τ.t ⟨#[]⟩ false 0 /\ w.heap.size <= c) :
   Calls Tryz.prog 188 #[pkv p, pkv τ.l] w fun e w' => e = .returned (.bool true) /\ zyo w w' B τ := by
 obtain ⟨i0, hi0, hi1, hi2, hi3⟩ := info_parts zvu
 have hcn := hτ.cn
 have hlaw := hτ.law
 have hrow := hτ.crow
 obtain ⟨l, t, wr, done, st, most, T, rp, dn, lv, csv, cs⟩ := τ
 obtain ⟨db, n, may, emp, were, wild, bit, xv, cc, commits, poi, ts, lists, want⟩ := s
 simp only at hpoi hdo hcu hcn hlaw hrow
 subst hpoi hdo
 obtain ⟨A, cap, hv, hcap, hcapm, hv2⟩ := zaf hrow
 subst hv
 clear hv2
 have t0 := (zcb hlaw).1
 have HL := zaa (fun W (hb : Below w.heap.size w W) => Blk.below hl hb hl.lt)
 have HLT := zaa (fun W (hb : Below w.heap.size w W) => Blk.below hlaw hb (Blk.lt hlaw))
 have HROW := zaa (fun W (hb : Below w.heap.size w W) => za8 hrow hb)
 have HI0 := zaa hi0
 have HI1 := zaa hi1
 have HI2 := zaa hi2
 have HI3 := zaa hi3
 have HCU := zaa hcu
 have hll : l < w.heap.size := Blk.lt hlaw
 unfold pkv at *
 clear hτ hl hcu hlaw hrow hi0 hi1 hi2 hi3
 go_enter Tryz.func188, Tryz.ntmps188
 go_wp2_with (first
  | (go_at_call 42; go_loud (
     refine HCU.out.mono ?_; rintro e w1 ⟨hb1, c, rfl, hc1, hcz⟩
     have hl1 := HL.out w1 hb1
     have hlt1 := HLT.out w1 hb1
     have m10 := (zbq hl1).2.2.2.1
     have q3 : w1.cell? ⟨l, 3, none⟩ = some (.bool false) := zab hlt1 3 rfl
     have q8 : w1.cell? ⟨l, 8, none⟩ = some (.slice A cs.length cap) := zab hlt1 8 rfl
     have q8' := fun o => zah o q8
     have HLT1 := zaa hlt1
     have HC1 := zaa hc1
     have HCZ := zaa hcz
     have HB1 := zaa hb1
     have HROW1 := zaa (HROW.out w1 hb1)
     clear hl1 hlt1 hc1 hcz hb1 t0))
  | (go_at_call 30; refine (zbg _).mono ?_; rintro e w' ⟨rfl, rfl⟩)
  | (go_at_call 179; refine (zar _ _).mono ?_; rintro e w' ⟨rfl, rfl⟩)
  | (at_builtin; go_loud (
     obtain ⟨W2, hW2⟩ : ∃ W2, W2 = w1.alloc (.cells #[.pointer (some ⟨c, 0, none⟩), .string ⟨#[]⟩, .bool false, .int .i64 0] 302) := ⟨_, rfl⟩
     have hs2 : W2.heap.size = w1.heap.size + 1 := by rw [hW2]; exact World.size_alloc _ _
     have hb2 : Below w1.heap.size w1 W2 := by rw [hW2]; exact (Below.refl _ _).alloc (Nat.le_refl _) _
     have hq2 : Blk W2 w1.heap.size 302 #[.pointer (some ⟨c, 0, none⟩), .string ⟨#[]⟩, .bool false, .int .i64 0] := by rw [hW2]; exact Blk.new _ _ _
     rw [<- hW2]
     have hrow2 := za8 HROW1.out hb2
     have hlt2 := Blk.below HLT1.out hb2 (Blk.lt HLT1.out)
     have HS2 := zaa hs2
     have HB2 := zaa hb2
     have HQ2 := zaa hq2
     have HROW2 := zaa hrow2
     have HLT2 := zaa hlt2
     clear hs2 hb2 hq2 hrow2 hlt2 hW2
     refine zak _ rfl (.tmp 54) (.tmp 58) 271 rfl B 279 i0 (.pointer none) 1 8 Tryz.underlying271 HI0.out HI1.out HI2.out HI3.out rfl (by decide) (.slice A cs.length cap) cs.length (cs.map fun c => pkv c.q) (by kernel_rfl) (HROW2.out.alloc _) (W2.heap.size + 1) (some ⟨w1.heap.size + 1, 0, none⟩) 1 1 [.pointer (some ⟨w1.heap.size, 0, none⟩)] (by kernel_rfl) ⟨rfl, fun _ => ⟨_, rfl, by show w1.heap.size + 1 < W2.heap.size + 1; have := HS2.out; omega, fun j u hu => by rw [Addr.add_lit, <- HS2.out]; exact (Blk.new W2 279 #[.pointer (some ⟨w1.heap.size, 0, none⟩)]).range (cur := [.pointer (some ⟨w1.heap.size, 0, none⟩)]) (o := 0) rfl j u hu⟩⟩ (fun u hu => by rw [List.mem_singleton.1 hu]; rfl) (by unfold maxLen; omega) (by omega) (by have := HB2.out.size; have := HB1.out.size; simp only [World.size_alloc]; omega) ?_
     intro v' w4 hown4 hgr4 hat4
     obtain ⟨A4, c4, hv4, hv5⟩ := zaf hown4
     clear hv5
     subst hv4
     have hopl : some l ≠ (Value.slice A cs.length cap).ownBlock := fun e => zag HROW2.out HLT2.out (by decide) e.symm
     have hlt4 := (Blk.alloc HLT2.out (.cells #[.pointer (some ⟨w1.heap.size, 0, none⟩)] 279)).grown hgr4 hopl
     have f8 : w4.frozen? ⟨l, 8, none⟩ = false := Blk.frozen hlt4 8
     have o8 : w4.cell? ⟨l, 8, none⟩ = some (.slice A cs.length cap) := zab hlt4 8 rfl
     have HLT4 := zaa hlt4
     have HOWN4 := zaa hown4
     have HGR4 := zaa hgr4
     have HAT4 := zaa hat4
     clear hlt4 hown4 hgr4 hat4 q8 q8')))
 go_ret
 have hs2 := HS2.out
 have hz1 := HB1.out.size
 have hoA : Only (fun y => some y = (Value.slice A cs.length cap).ownBlock) W2 w4 := Only.grown ((Only.refl _ _).alloc _) HGR4.out (fun g e => .inl e.symm)
 have hfA : ∀ {y : Nat} {T : TypeId} {cx : Array Value}, Blk W2 y T cx -> T ≠ 279 -> ¬ some y = (Value.slice A cs.length cap).ownBlock := fun hy hT e => zag HROW2.out hy hT.symm e.symm
 have ho5 : Only (· = l) w4 (w4.setCell ⟨l, 8, none⟩ (.slice A4 (cs.length + 1) c4)) := Only.set1 _ _ _ _
 have hfp : ∀ {y : Nat} {T : TypeId} {cx : Array Value}, Blk w4 y T cx -> T ≠ 273 -> ¬ y = l := fun hy hT e => by subst e; exact Blk.ne_ hy HLT4.out hT rfl
 have hq4 := Blk.only HQ2.out hoA (hfA HQ2.out (by decide))
 have hc2 := Blk.below HC1.out HB2.out (Blk.lt HC1.out)
 have hc4 := Blk.only hc2 hoA (hfA hc2 (by decide))
 refine ⟨rfl, w1.heap.size, c, .slice A4 (cs.length + 1) c4, Blk.only hq4 ho5 (hfp hq4 (by decide)), Blk.only hc4 ho5 (hfp hc4 (by decide)), zam HOWN4.out ho5 (fun z cx hz => hfp hz (by decide)), ?_, HLT4.out.set_ 8 _, hz1, HCZ.out, ?_⟩
 . intro g hg
   rcases HAT4.out with e | e
   . exact .inl (by rw [<- e]; exact hg)
   . rw [hg] at e
     injection e with e
     rw [World.size_alloc] at e
     exact .inr (by omega)
 . have o1 : Only (fun y => y = l \/ some y = (Value.slice A cs.length cap).ownBlock) w W2 := Only.of_below (HB1.out.trans (HB2.out.mono HB1.out.size))
   exact (o1.trans (hoA.mono fun y _ hy => .inr hy)).trans (ho5.mono fun y _ hy => .inl hy)
set_option maxHeartbeats 4000000 in
theorem zry (hl : LdAt w p s) (hpoi : s.poi = false) (hτ : zeq w τ) (hdo : τ.done = true) (hg : Glob w)
   (hcu : Calls Tryz.prog 42 #[pkv τ.t] w fun e w1 => Below w.heap.size w w1 /\ ∃ f, e = .returned (.tuple #[.pointer none, zad f]) /\ zaj w1 f zho 5) :
   Calls Tryz.prog 188 #[pkv p, pkv τ.l] w fun e w' => e = .returned (.bool true) /\ Below w.heap.size w w' := by
 obtain ⟨l, t, wr, done, st, most, T, rp, dn, lv, csv, cs⟩ := τ
 obtain ⟨db, n, may, emp, were, wild, bit, xv, cc, commits, poi, ts, lists, want⟩ := s
 simp only at hpoi hdo hcu
 subst hpoi hdo
 have t0 := (zcb hτ).1
 have HL := zaa (fun W (hb : Below w.heap.size w W) => Blk.below hl hb hl.lt)
 have HLT := zaa (fun W (hb : Below w.heap.size w W) => Blk.below hτ hb (Blk.lt hτ))
 have HG := zaa (fun W (hb : Below w.heap.size w W) => hg.only (fp := fun _ => False) (Only.of_below hb) id)
 have HCU := zaa hcu
 unfold pkv at *
 clear hτ hl hcu hg
 go_enter Tryz.func188, Tryz.ntmps188
 go_wp2_with (first
  | (go_at_call 42; go_loud (
     refine HCU.out.mono ?_; rintro e w1 ⟨hb1, f, rfl, hf⟩
     have HTF := zaa (za9 f 5 _ w1 hf (HG.out w1 hb1))
     have HB1 := zaa hb1
     clear hf hb1 t0
     unfold zad at HTF
     unfold zad))
  | (go_at_call 30; go_loud (
     refine HTF.out.mono ?_; rintro e w2 ⟨rfl, hb2⟩
     have hb := HB1.out.trans (hb2.mono HB1.out.size)
     have hl1 := HL.out w2 hb
     have hlt1 := HLT.out w2 hb
     have m10 := (zbq hl1).2.2.2.1
     have q3 : w2.cell? ⟨l, 3, none⟩ = some (.bool true) := zab hlt1 3 rfl
     have HB := zaa hb
     clear hl1 hlt1 hb hb2))
  | (go_at_call 179; refine (zar _ _).mono ?_; rintro e w' ⟨rfl, rfl⟩))
 all_goals (go_ret; exact ⟨rfl, HB.out⟩)
end
section
variable (c t x : Nat) (τ : TxS) (s : DbS) (op key : Str) (from_ on : Bool) (stamp : Int) (lf : FuncId) (caps : Array Value) (w : World) (hC : zbj w c t key on stamp) (hT : TxAt w t τ) (hD : DbAt w x s) (hx : τ.db = x)
include hC hT hD hx
set_option maxHeartbeats 2000000 in
theorem ztn (h0 : mayC s.poi τ.done false τ.write = 0) (hn : from_ = false \/ (from_ = true /\ on = true /\ stamp = τ.stamp)) (res : Option (Str × Str)) (q : Option Addr) (hroot : τ.root = .pointer q) (heg : ∀ args w, (callFunc lf args).run Tryz.prog w = .ok (.enter lf args) w)
   (hlook : ∀ W, Only (· = x) w W -> Calls Tryz.prog lf (#[.agg #[.pointer q, .int .i64 τ.keys]] ++ caps) W fun e w' => e = .returned (.tuple #[zao res, .bool res.isSome]) /\ Below W.heap.size W w') :
   Calls Tryz.prog 67 #[.pointer (some ⟨c, 0, none⟩), .string op, .bool from_, .func (.func lf) #[] caps] w fun e w' => e = .returned (.tuple #[zao res, .bool res.isSome, .nilIface]) /\ zbj w' c t (rK res) res.isSome τ.stamp /\ Only (· = c) w w' := by
 obtain ⟨W0, hW0⟩ : ∃ W0, W0 = w.alloc (.cells #[.string ⟨#[]⟩, .string ⟨#[]⟩] 68) := ⟨_, rfl⟩
 have hb0 : Below w.heap.size w W0 := by rw [hW0]; exact (Below.refl _ _).alloc (Nat.le_refl _) _
 have hx0 : Blk W0 w.heap.size 68 #[.string ⟨#[]⟩, .string ⟨#[]⟩] := by rw [hW0]; exact Blk.new _ _ _
 have hD0 : DbAt W0 x s := Blk.below hD hb0 (Blk.lt hD)
 have hT0 : TxAt W0 t τ := Blk.below hT hb0 (Blk.lt hT)
 have hC0 : zbj W0 c t key on stamp := Blk.below hC hb0 (Blk.lt hC)
 have c0 : W0.cell? ⟨c, 0, none⟩ = some (.pointer (some ⟨t, 0, none⟩)) := zab hC0 0 rfl
 have t0 : W0.cell? ⟨t, 0, none⟩ = some (.pointer (some ⟨x, 0, none⟩)) := by rw [<- hx]; exact zab hT0 0 rfl
 have htx : t ≠ x := Blk.ne_ hT hD (by decide)
 have hcx : c ≠ x := Blk.ne_ hC hD (by decide)
 have hbx : w.heap.size ≠ x := by have := Blk.lt hD; omega
 have HL := zaa (zb3 hD0 rfl)
 have HXL := zaa (Blk.lt hD)
 have HTL := zaa (Blk.lt hT)
 have HCL := zaa (Blk.lt hC)
 have HT := zaa hT0
 have HC := zaa hC0
 have HD0 := zaa hD
 have HC0 := zaa hC
 have HD := zaa hD0
 have HX := zaa hx0
 have HB0 := zaa hb0
 have H0 := zaa h0
 have hlk : ∀ W, Only (· = x) (w.alloc (.cells #[.string ⟨#[]⟩, .string ⟨#[]⟩] 68)) W -> Calls Tryz.prog lf (#[.agg #[.pointer q, .int .i64 τ.keys]] ++ caps) W fun e w' => e = .returned (.tuple #[zao res, .bool res.isSome]) /\ Below W.heap.size W w' := fun W ho => hlook W (((Only.refl _ _).alloc _).trans ho)
 have HLK := zaa hlk
 clear hT hC hD h0 hb0 hx0 hD0 hT0 hC0 hlook hlk
 subst hW0
 go_enter_defers Tryz.func67, Tryz.ntmps67
 rcases hn with rfl | ⟨rfl, rfl, hn⟩
 all_goals (
  go_wp2_with (first
   | (go_at_call 51; go_loud (
      refine HL.out.mono ?_; rintro e w1 ⟨rfl, hb1, ho1, hs1⟩
      have hT1 := Blk.only HT.out ho1 htx
      have hC1 := Blk.only HC.out ho1 hcx
      have hX1 := HX.out.only ho1 hbx
      have k0 : w1.cell? ⟨t, 0, none⟩ = some (.pointer (some ⟨x, 0, none⟩)) := by rw [<- hx]; exact zab hT1 0 rfl
      have k1 : w1.cell? ⟨c, 0, none⟩ = some (.pointer (some ⟨t, 0, none⟩)) := zab hC1 0 rfl
      have k2 : w1.cell? ⟨c, 2, none⟩ = some (.bool _) := zab hC1 2 rfl
      have k3 : w1.cell? ⟨c, 3, none⟩ = some (.int .i64 stamp) := zab hC1 3 rfl
      have k4 : w1.cell? ⟨t, 5, none⟩ = some (.int .i64 τ.stamp) := zab hT1 5 rfl
      have k5 : w1.cell? ⟨t, 1, none⟩ = some (.pointer q) := by rw [<- hroot]; exact zab hT1 1 rfl
      have k6 : w1.cell? ⟨t, 2, none⟩ = some (.int .i64 τ.keys) := zab hT1 2 rfl
      have HM := zaa (zex t x τ s 1 op false w1 hT1 hb1 hx)
      rw [H0.out] at HM
      have HLK1 := zaa (HLK.out w1.drew ho1.drew)
      have HB1 := zaa hb1
      have HO1 := zaa ho1
      have HX1 := zaa hX1
      have HT1 := zaa hT1
      have HC1 := zaa hC1
      clear hT1 hC1 hX1 hb1 ho1 hs1))
   | (go_at_call 54; go_loud (
      refine HM.out.mono ?_; rintro e w2 ⟨v, rfl, hb2, ha⟩
      obtain ⟨rfl, rfl⟩ : v = .nilIface /\ w1 = w2 := by
       rcases ha with h | h
       . exact ⟨h.2.1, h.2.2⟩
       . exact absurd rfl h.1
      clear ha hb2)))
  go_region
  go_wp2_with ((
   (with_reducible refine HLK1.out.mono ?_); rintro e w5 ⟨rfl, hb5⟩
   have hb5' : Below w1.heap.size w1 w5 := ((Below.refl _ _).drew).trans hb5
   have hT5 := HT1.out.below hb5' HT1.out.lt
   have hC5 := HC1.out.below hb5' HC1.out.lt
   have hX5 := HX1.out.below hb5' HX1.out.lt
   have q0 := zab hC5 0 rfl
   have q1 := zab hC5 1 rfl
   have q2 := zab hC5 2 rfl
   have q3 := zab hC5 3 rfl
   have f1 : w5.frozen? ⟨c, 1, none⟩ = false := hC5.frozen 1
   have f2 : w5.frozen? ⟨c, 2, none⟩ = false := hC5.frozen 2
   have f3 : w5.frozen? ⟨c, 3, none⟩ = false := hC5.frozen 3
   have p0 : w5.cell? ⟨t, 0, none⟩ = some (.pointer (some ⟨x, 0, none⟩)) := by rw [<- hx]; exact zab hT5 0 rfl
   have p5 : w5.cell? ⟨t, 5, none⟩ = some (.int .i64 τ.stamp) := zab hT5 5 rfl
   have g0 := zab hX5 0 rfl
   have g1 := zab hX5 1 rfl
   have z0 : w5.frozen? ⟨w.heap.size, 0, none⟩ = false := hX5.frozen 0
   have z1 : w5.frozen? ⟨w.heap.size, 1, none⟩ = false := hX5.frozen 1
   have HB5 := zaa hb5'
   have HX5 := zaa hX5
   have HC5 := zaa hC5
   have HT5 := zaa hT5
   have n1 : ¬ c = w5.heap.size := by have := hC5.lt; omega
   have n1' : ¬ w5.heap.size = c := fun e => n1 e.symm
   have n2 : ¬ t = w5.heap.size := by have := hT5.lt; omega
   have n2' : ¬ w5.heap.size = t := fun e => n2 e.symm
   have n3 : ¬ w.heap.size = w5.heap.size := by have := hX5.lt; omega
   have n3' : ¬ w5.heap.size = w.heap.size := fun e => n3 e.symm
   have n4 : ¬ c = w.heap.size := by have := HCL.out; omega
   have n4' : ¬ w.heap.size = c := fun e => n4 e.symm
   have n5 : ¬ t = w.heap.size := by have := HTL.out; omega
   have n6 : ¬ c = t := Blk.ne_ hC5 hT5 (by decide)
   have n6' : ¬ t = c := fun e => n6 e.symm
   unfold zao
   clear hb5 hb5' hT5 hC5 hX5))
  obtain ⟨W6, hW6⟩ : ∃ W6, W6 = w5.alloc (.cells #[.string (rK res), .string (rV res)] 68) := ⟨_, rfl⟩
  have hb6 : Below w5.heap.size w5 W6 := by rw [hW6]; exact (Below.refl _ _).alloc (Nat.le_refl _) _
  have hp6 : Blk W6 w5.heap.size 68 #[.string (rK res), .string (rV res)] := by rw [hW6]; exact Blk.new _ _ _
  rw [<- hW6]
  have hC6 := HC5.out.below hb6 HC5.out.lt
  have hT6 := HT5.out.below hb6 HT5.out.lt
  have hX6 := HX5.out.below hb6 HX5.out.lt
  clear q0 q1 q2 q3 f1 f2 f3 p0 p5 g0 g1 z0 z1 hW6
  have q0 := zab hC6 0 rfl
  have q1 := zab hC6 1 rfl
  have q2 := zab hC6 2 rfl
  have q3 := zab hC6 3 rfl
  have f1 : W6.frozen? ⟨c, 1, none⟩ = false := hC6.frozen 1
  have f2 : W6.frozen? ⟨c, 2, none⟩ = false := hC6.frozen 2
  have f3 : W6.frozen? ⟨c, 3, none⟩ = false := hC6.frozen 3
  have p5 : W6.cell? ⟨t, 5, none⟩ = some (.int .i64 τ.stamp) := zab hT6 5 rfl
  have g0 := zab hX6 0 rfl
  have g1 := zab hX6 1 rfl
  have z0 : W6.frozen? ⟨w.heap.size, 0, none⟩ = false := hX6.frozen 0
  have z1 : W6.frozen? ⟨w.heap.size, 1, none⟩ = false := hX6.frozen 1
  have r0 := zab hp6 0 rfl
  have r1 := zab hp6 1 rfl
  have HB6 := zaa hb6
  have HC6 := zaa hC6
  have HX6 := zaa hX6
  have HP6 := zaa hp6
  clear hb6 hC6 hT6 hX6 hp6
  have hpx : W6.cell? ⟨c, 0, none⟩ = some (.pointer (some ⟨t, 0, none⟩)) := q0
  have hpk : W6.cell? ⟨w5.heap.size, 0, none⟩ = some (.string (rK res)) := r0
  have hps : ∀ W, Only (fun y => y = c) W6 W -> W.cell? ⟨c, 0, none⟩ = some (.pointer (some ⟨t, 0, none⟩)) -> W.cell? ⟨w5.heap.size, 0, none⟩ = some (.string (rK res)) /\ W.cell? ⟨c, 0, none⟩ = some (.pointer (some ⟨t, 0, none⟩)) /\ W.cell? ⟨t, 5, none⟩ = some (.int .i64 τ.stamp) := fun W ho h0 =>
   ⟨(ho.cell (p := ⟨w5.heap.size, 0, none⟩) HP6.out.lt (fun e => n1' e)).trans hpk, h0, (ho.cell (p := ⟨t, 5, none⟩) (by have := HT5.out.lt; exact Nat.lt_of_lt_of_le this HB6.out.size) (fun e => n6' e)).trans p5⟩
  have HS0 := zaa (show W6.drew.cell? ⟨w5.heap.size, 0, none⟩ = some (.string (rK res)) /\ W6.drew.cell? ⟨c, 0, none⟩ = some (.pointer (some ⟨t, 0, none⟩)) /\ W6.drew.cell? ⟨t, 5, none⟩ = some (.int .i64 τ.stamp) from ⟨hpk, hpx, p5⟩)
  have HS1 := zaa (hps _ ((Only.set1 W6 c 1 (.string (rK res))).drew) (zab ((HC6.out.set_ 1 (.string (rK res))).drew) 0 rfl))
  have HS2 := zaa (hps _ (((Only.set1 W6 c 1 (.string (rK res))).set2 2 (.bool res.isSome)).drew) (zab (((HC6.out.set_ 1 (.string (rK res))).set_ 2 (.bool res.isSome)).drew) 0 rfl))
  have HS3 := zaa (hps _ ((((Only.set1 W6 c 1 (.string (rK res))).set2 2 (.bool res.isSome)).set2 3 (.int .i64 τ.stamp)).drew) (zab ((((HC6.out.set_ 1 (.string (rK res))).set_ 2 (.bool res.isSome)).set_ 3 (.int .i64 τ.stamp)).drew) 0 rfl))
  clear hps
  go_region_held3 (fun w' => w'.cell? ⟨w5.heap.size, 0, none⟩ = some (.string (rK res)) /\ w'.cell? ⟨c, 0, none⟩ = some (.pointer (some ⟨t, 0, none⟩)) /\ w'.cell? ⟨t, 5, none⟩ = some (.int .i64 τ.stamp)) (first | with_reducible exact HS0.out | with_reducible exact HS1.out | with_reducible exact HS2.out | with_reducible exact HS3.out | (trace_state; fail)) (fail)
  go_wp2
  obtain ⟨W7, hW7⟩ : ∃ W7, W7 = (((((W6.setCell ⟨c, 1, none⟩ (.string (rK res))).setCell ⟨c, 2, none⟩ (.bool res.isSome)).setCell ⟨c, 3, none⟩ (.int .i64 τ.stamp)).setCell ⟨w.heap.size, 0, none⟩ (.string (rK res))).setCell ⟨w.heap.size, 1, none⟩ (.string (rV res))).drew := ⟨_, rfl⟩
  rw [<- hW7]
  have hoW : Only (fun y => y = c \/ y = w.heap.size) W6 W7 := by
   rw [hW7]
   exact ((((((Only.refl (fun y => y = c \/ y = w.heap.size) W6).setCell (p := ⟨c, 1, none⟩) (.inl (.inl rfl)) _).setCell (p := ⟨c, 2, none⟩) (.inl (.inl rfl)) _).setCell (p := ⟨c, 3, none⟩) (.inl (.inl rfl)) _).setCell (p := ⟨w.heap.size, 0, none⟩) (.inl (.inr rfl)) _).setCell (p := ⟨w.heap.size, 1, none⟩) (.inl (.inr rfl)) _).drew
  have hC7 : zbj W7 c t (rK res) res.isSome τ.stamp := by
   rw [hW7]
   exact (((((HC6.out.set_ 1 _).set_ 2 _).set_ 3 _).far (p := ⟨w.heap.size, 0, none⟩) n4 _).far (p := ⟨w.heap.size, 1, none⟩) n4 _).drew
  have hX7 : Blk W7 w.heap.size 68 #[.string (rK res), .string (rV res)] := by
   rw [hW7]
   exact (((((HX6.out.far (p := ⟨c, 1, none⟩) n4' _).far (p := ⟨c, 2, none⟩) n4' _).far (p := ⟨c, 3, none⟩) n4' _).set_ 0 _).set_ 1 _).drew
  have hxl := HXL.out
  have hx1 := HB1.out.lt
  have hs5 := HB5.out.size
  have hD5 := HB1.out.below HB5.out HB1.out.lt
  have hD6 := hD5.below HB6.out hD5.lt
  have hD7 := hD6.only hoW (fun e => e.elim (fun e => hcx e.symm) (by omega))
  refine leaves_cons (f := 52) (args := #[.pointer (some ⟨x, 0, none⟩)]) (by simp) (by simp [go_sem]) ?_
  refine (zbe .returning hD7 rfl).mono ?_
  rintro e u' w4 ⟨rfl, rfl, hb4, ho4, hs4⟩
  have hX4 := hX7.only ho4 (show ¬ w.heap.size = x by omega)
  have e0 := zab hX4 0 rfl
  have e1 := zab hX4 1 rfl
  refine ⟨.tuple #[.agg #[.string (rK res), .string (rV res)], .bool res.isSome, .nilIface], by simp [results, Tryz.results67, go_sem, e0, e1], rfl, Blk.only hC7 ho4 hcx, ?_⟩
  have h1 : Only (· = x) w w1 := ((Only.refl _ _).alloc _).trans HO1.out
  have h2 : Only (fun y => y = x \/ y = c) w W6 := ((h1.below HB5.out).below HB6.out).mono fun _ _ h => .inl h
  have h3 : Only (fun y => y = x \/ y = c) w w4 := (h2.trans' hoW (fun y hy e => e.elim .inr (fun e => by omega))).trans (ho4.mono fun _ _ h => .inl h)
  exact ⟨h3.os, h3.tape, h3.output, h3.size, fun y hy hn' => by
   by_cases e : y = x
   . subst e
     exact hb4.trans (show Blk w y _ _ from HD0.out).symm
   . exact h3.block y hy (fun h => h.elim e hn')⟩)
end
def zfg (c t : Nat) (τ : TxS) (s : DbS) (op : Str) (from_ on : Bool) (stamp : Int) (res : Option (Str × Str)) (w : World) : Ending -> World -> Prop := fun e w' =>
 (mayC s.poi τ.done false τ.write ≠ 0 /\ Below w.heap.size w w' /\ ∃ f, e = .returned (.tuple #[zao none, .bool false, zad f]) /\ zaj w' f op (mayC s.poi τ.done false τ.write) /\ w.heap.size <= f) \/
 (mayC s.poi τ.done false τ.write = 0 /\ (from_ = true /\ (on = false \/ (on = true /\ stamp ≠ τ.stamp))) /\ Below w.heap.size w w' /\ ∃ f, e = .returned (.tuple #[zao none, .bool false, zad f]) /\ zaj w' f op 11 /\ w.heap.size <= f) \/
 (mayC s.poi τ.done false τ.write = 0 /\ (from_ = false \/ (from_ = true /\ on = true /\ stamp = τ.stamp)) /\ e = .returned (.tuple #[zao res, .bool res.isSome, .nilIface]) /\ zbj w' c t (rK res) res.isSome τ.stamp /\ Only (· = c) w w')
theorem zgj (c t x : Nat) (τ : TxS) (s : DbS) (op key : Str) (from_ on : Bool) (stamp : Int) (lf : FuncId) (caps : Array Value) (w : World) (hC : zbj w c t key on stamp) (hT : TxAt w t τ) (hD : DbAt w x s) (hx : τ.db = x) (res : Option (Str × Str)) (q : Option Addr) (hroot : τ.root = .pointer q) (heg : ∀ args w, (callFunc lf args).run Tryz.prog w = .ok (.enter lf args) w)
   (hlook : ∀ W, Only (· = x) w W -> Calls Tryz.prog lf (#[.agg #[.pointer q, .int .i64 τ.keys]] ++ caps) W fun e w' => e = .returned (.tuple #[zao res, .bool res.isSome]) /\ Below W.heap.size W w') :
   Calls Tryz.prog 67 #[.pointer (some ⟨c, 0, none⟩), .string op, .bool from_, .func (.func lf) #[] caps] w (zfg c t τ s op from_ on stamp res w) := by
 by_cases h0 : mayC s.poi τ.done false τ.write = 0
 . by_cases h1 : from_ = true /\ (on = false \/ (on = true /\ stamp ≠ τ.stamp))
   . refine (zrq c t x τ s op key from_ on stamp lf caps w hC hT hD hx h0 h1.1 h1.2).mono ?_
     rintro e w' ⟨hb, hf⟩
     exact .inr (.inl ⟨h0, h1, hb, hf⟩)
   . have h2 : from_ = false \/ (from_ = true /\ on = true /\ stamp = τ.stamp) := by
       cases from_
       . exact .inl rfl
       . cases on
         . exact absurd ⟨rfl, .inl rfl⟩ h1
         . refine .inr ⟨rfl, rfl, ?_⟩
           by_cases e : stamp = τ.stamp
           . exact e
           . exact absurd ⟨rfl, .inr ⟨rfl, e⟩⟩ h1
     refine (ztn c t x τ s op key from_ on stamp lf caps w hC hT hD hx h0 h2 res q hroot heg hlook).mono ?_
     rintro e w' ⟨h3, h4, h5⟩
     exact .inr (.inr ⟨h0, h2, h3, h4, h5⟩)
 . refine (zrp c t x τ s op key from_ on stamp lf caps w hC hT hD hx _ rfl h0).mono ?_
   rintro e w' ⟨hb, hf⟩
   exact .inl ⟨h0, hb, hf⟩
set_option maxHeartbeats 1000000 in
theorem zrz (T : Tree) (q : Option Addr) (ds : List Nat) (w : World) (hV : TreeV (fun z => z < w.heap.size) w T (.pointer q) ds) (hR : TR T) (hp : T.pairs.length <= 150) :
   Calls Tryz.prog 68 #[.agg #[.pointer q, .int .i64 T.keys]] w fun e w' => e = .returned (.tuple #[zao (afterV false ⟨#[]⟩ (za5 T ⟨#[]⟩)), .bool (afterV false ⟨#[]⟩ (za5 T ⟨#[]⟩)).isSome]) /\ Below w.heap.size w w' := by
 obtain ⟨r, hr⟩ : ∃ r, r = afterV false ⟨#[]⟩ (za5 T ⟨#[]⟩) := ⟨_, rfl⟩
 rw [<- hr]
 obtain ⟨W1, hW1⟩ : ∃ W1, W1 = (w.alloc (.cells #[.pointer q, .int .i64 T.keys] 88)).alloc (.cells #[.string ⟨#[]⟩, .string ⟨#[]⟩] 68) := ⟨_, rfl⟩
 have hb : Below w.heap.size w W1 := by rw [hW1]; exact ((Below.refl _ _).alloc (Nat.le_refl _) _).alloc (by simp) _
 have hx : Blk W1 (w.heap.size + 1) 68 #[.string ⟨#[]⟩, .string ⟨#[]⟩] := by rw [hW1]; exact Blk.new2 _ _ _ _
 have HA := zaa (fun W (h : Below w.heap.size w W) => zii T (.pointer q) ds ⟨#[]⟩ false W (hV.below h fun _ k => k) hR hp)
 unfold zav at HA
 rw [<- hr] at HA
 have HB := zaa hb
 have HX := zaa hx
 clear hV hR hp hb hx hr
 subst hW1
 go_enter Tryz.func68, Tryz.ntmps68
 go_wp2_with (go_at_call 69; go_loud (
  refine (HA.out _ HB.out).mono ?_; rintro e w1 ⟨rfl, hb1⟩
  have hx1 := HX.out.below hb1 HX.out.lt
  have g0 := zab hx1 0 rfl
  have g1 := zab hx1 1 rfl
  have z0 : w1.frozen? ⟨w.heap.size + 1, 0, none⟩ = false := hx1.frozen 0
  have z1 : w1.frozen? ⟨w.heap.size + 1, 1, none⟩ = false := hx1.frozen 1
  unfold zao
  have HB1 := zaa hb1
  have HX1 := zaa hx1
  clear hb1 hx1))
 obtain ⟨WE, hWE⟩ : ∃ WE, WE = (w1.setCell ⟨w.heap.size + 1, 0, none⟩ (.string (rK r))).setCell ⟨w.heap.size + 1, 1, none⟩ (.string (rV r)) := ⟨_, rfl⟩
 rw [<- hWE]
 have hxE : Blk WE (w.heap.size + 1) 68 #[.string (rK r), .string (rV r)] := by rw [hWE]; exact (HX1.out.set_ 0 _).set_ 1 _
 have hbE : Below w.heap.size w WE := by rw [hWE]; exact ((HB.out.trans (HB1.out.mono HB.out.size)).setCell (p := ⟨w.heap.size + 1, 0, none⟩) (by simp) _).setCell (p := ⟨w.heap.size + 1, 1, none⟩) (by simp) _
 have r0 := zab hxE 0 rfl
 have r1 := zab hxE 1 rfl
 exact bodyPost_ret (v := .tuple #[.agg #[.string (rK r), .string (rV r)], .bool r.isSome]) (by simp [results, Tryz.results68, go_sem, r0, r1]) rfl ⟨rfl, hbE⟩
set_option maxHeartbeats 1000000 in
theorem zto (T : Tree) (q : Option Addr) (ds : List Nat) (w : World) (hV : TreeV (fun z => z < w.heap.size) w T (.pointer q) ds) (hR : TR T) (hp : T.pairs.length <= 150) :
   Calls Tryz.prog 71 #[.agg #[.pointer q, .int .i64 T.keys]] w fun e w' => e = .returned (.tuple #[zao (zcv T ⟨#[]⟩ true), .bool (zcv T ⟨#[]⟩ true).isSome]) /\ Below w.heap.size w w' := by
 obtain ⟨r, hr⟩ : ∃ r, r = zcv T ⟨#[]⟩ true := ⟨_, rfl⟩
 rw [<- hr]
 obtain ⟨W1, hW1⟩ : ∃ W1, W1 = (w.alloc (.cells #[.pointer q, .int .i64 T.keys] 88)).alloc (.cells #[.string ⟨#[]⟩, .string ⟨#[]⟩] 68) := ⟨_, rfl⟩
 have hb : Below w.heap.size w W1 := by rw [hW1]; exact ((Below.refl _ _).alloc (Nat.le_refl _) _).alloc (by simp) _
 have hx : Blk W1 (w.heap.size + 1) 68 #[.string ⟨#[]⟩, .string ⟨#[]⟩] := by rw [hW1]; exact Blk.new2 _ _ _ _
 have HA := zaa (fun W (h : Below w.heap.size w W) => zjb T (.pointer q) ds ⟨#[]⟩ true W (hV.below h fun _ k => k) hR hp)
 unfold ze1 zav at HA
 rw [<- hr] at HA
 have HB := zaa hb
 have HX := zaa hx
 clear hV hR hp hb hx hr
 subst hW1
 go_enter Tryz.func71, Tryz.ntmps71
 go_wp2_with (go_at_call 72; go_loud (
  refine (HA.out _ HB.out).mono ?_; rintro e w1 ⟨rfl, hb1⟩
  have hx1 := HX.out.below hb1 HX.out.lt
  have g0 := zab hx1 0 rfl
  have g1 := zab hx1 1 rfl
  have z0 : w1.frozen? ⟨w.heap.size + 1, 0, none⟩ = false := hx1.frozen 0
  have z1 : w1.frozen? ⟨w.heap.size + 1, 1, none⟩ = false := hx1.frozen 1
  unfold zao
  have HB1 := zaa hb1
  have HX1 := zaa hx1
  clear hb1 hx1))
 obtain ⟨WE, hWE⟩ : ∃ WE, WE = (w1.setCell ⟨w.heap.size + 1, 0, none⟩ (.string (rK r))).setCell ⟨w.heap.size + 1, 1, none⟩ (.string (rV r)) := ⟨_, rfl⟩
 rw [<- hWE]
 have hxE : Blk WE (w.heap.size + 1) 68 #[.string (rK r), .string (rV r)] := by rw [hWE]; exact (HX1.out.set_ 0 _).set_ 1 _
 have hbE : Below w.heap.size w WE := by rw [hWE]; exact ((HB.out.trans (HB1.out.mono HB.out.size)).setCell (p := ⟨w.heap.size + 1, 0, none⟩) (by simp) _).setCell (p := ⟨w.heap.size + 1, 1, none⟩) (by simp) _
 have r0 := zab hxE 0 rfl
 have r1 := zab hxE 1 rfl
 exact bodyPost_ret (v := .tuple #[.agg #[.string (rK r), .string (rV r)], .bool r.isSome]) (by simp [results, Tryz.results71, go_sem, r0, r1]) rfl ⟨rfl, hbE⟩
set_option maxHeartbeats 1000000 in
theorem ztp (T : Tree) (q : Option Addr) (ds : List Nat) (w : World) (hV : TreeV (fun z => z < w.heap.size) w T (.pointer q) ds) (hR : TR T) (hp : T.pairs.length <= 150) (k : Str) (kb : Nat) (hk : Blk w kb 9 #[.string k]) :
   Calls Tryz.prog 74 #[.agg #[.pointer q, .int .i64 T.keys], .pointer (some ⟨kb, 0, none⟩)] w fun e w' => e = .returned (.tuple #[zao (afterV false k (za5 T k)), .bool (afterV false k (za5 T k)).isSome]) /\ Below w.heap.size w w' := by
 obtain ⟨r, hr⟩ : ∃ r, r = afterV false k (za5 T k) := ⟨_, rfl⟩
 rw [<- hr]
 obtain ⟨W1, hW1⟩ : ∃ W1, W1 = (w.alloc (.cells #[.pointer q, .int .i64 T.keys] 88)).alloc (.cells #[.string ⟨#[]⟩, .string ⟨#[]⟩] 68) := ⟨_, rfl⟩
 have hb : Below w.heap.size w W1 := by rw [hW1]; exact ((Below.refl _ _).alloc (Nat.le_refl _) _).alloc (by simp) _
 have hx : Blk W1 (w.heap.size + 1) 68 #[.string ⟨#[]⟩, .string ⟨#[]⟩] := by rw [hW1]; exact Blk.new2 _ _ _ _
 have HA := zaa (fun W (h : Below w.heap.size w W) => zii T (.pointer q) ds k false W (hV.below h fun _ k => k) hR hp)
 unfold zav at HA
 rw [<- hr] at HA
 have k0 := zab hk 0 rfl
 have k0' := fun o => zah o k0
 have k0'' := fun o o' => zah o' (zah o k0)
 have HB := zaa hb
 have HX := zaa hx
 clear hV hR hp hb hx hr hk
 subst hW1
 go_enter Tryz.func74, Tryz.ntmps74
 go_wp2_with (go_at_call 69; go_loud (
  refine (HA.out _ HB.out).mono ?_; rintro e w1 ⟨rfl, hb1⟩
  have hx1 := HX.out.below hb1 HX.out.lt
  have g0 := zab hx1 0 rfl
  have g1 := zab hx1 1 rfl
  have z0 : w1.frozen? ⟨w.heap.size + 1, 0, none⟩ = false := hx1.frozen 0
  have z1 : w1.frozen? ⟨w.heap.size + 1, 1, none⟩ = false := hx1.frozen 1
  unfold zao
  have HB1 := zaa hb1
  have HX1 := zaa hx1
  clear hb1 hx1))
 obtain ⟨WE, hWE⟩ : ∃ WE, WE = (w1.setCell ⟨w.heap.size + 1, 0, none⟩ (.string (rK r))).setCell ⟨w.heap.size + 1, 1, none⟩ (.string (rV r)) := ⟨_, rfl⟩
 rw [<- hWE]
 have hxE : Blk WE (w.heap.size + 1) 68 #[.string (rK r), .string (rV r)] := by rw [hWE]; exact (HX1.out.set_ 0 _).set_ 1 _
 have hbE : Below w.heap.size w WE := by rw [hWE]; exact ((HB.out.trans (HB1.out.mono HB.out.size)).setCell (p := ⟨w.heap.size + 1, 0, none⟩) (by simp) _).setCell (p := ⟨w.heap.size + 1, 1, none⟩) (by simp) _
 have r0 := zab hxE 0 rfl
 have r1 := zab hxE 1 rfl
 exact bodyPost_ret (v := .tuple #[.agg #[.string (rK r), .string (rV r)], .bool r.isSome]) (by simp [results, Tryz.results74, go_sem, r0, r1]) rfl ⟨rfl, hbE⟩
set_option maxHeartbeats 1000000 in
theorem ztq (T : Tree) (q : Option Addr) (ds : List Nat) (w : World) (hV : TreeV (fun z => z < w.heap.size) w T (.pointer q) ds) (hR : TR T) (hp : T.pairs.length <= 150) (c cb t : Nat) (key : Str) (on : Bool) (stamp : Int) (hc : zbj w c t key on stamp) (hk : Blk w cb 64 #[.pointer (some ⟨c, 0, none⟩)]) :
   Calls Tryz.prog 70 #[.agg #[.pointer q, .int .i64 T.keys], .pointer (some ⟨cb, 0, none⟩)] w fun e w' => e = .returned (.tuple #[zao (afterV true key (za5 T key)), .bool (afterV true key (za5 T key)).isSome]) /\ Below w.heap.size w w' := by
 obtain ⟨r, hr⟩ : ∃ r, r = afterV true key (za5 T key) := ⟨_, rfl⟩
 rw [<- hr]
 obtain ⟨W1, hW1⟩ : ∃ W1, W1 = (w.alloc (.cells #[.pointer q, .int .i64 T.keys] 88)).alloc (.cells #[.string ⟨#[]⟩, .string ⟨#[]⟩] 68) := ⟨_, rfl⟩
 have hb : Below w.heap.size w W1 := by rw [hW1]; exact ((Below.refl _ _).alloc (Nat.le_refl _) _).alloc (by simp) _
 have hx : Blk W1 (w.heap.size + 1) 68 #[.string ⟨#[]⟩, .string ⟨#[]⟩] := by rw [hW1]; exact Blk.new2 _ _ _ _
 have HA := zaa (fun W (h : Below w.heap.size w W) => zii T (.pointer q) ds key true W (hV.below h fun _ k => k) hR hp)
 unfold zav at HA
 rw [<- hr] at HA
 have k0 := zab hk 0 rfl
 have k0' := fun o => zah o k0
 have k0'' := fun o o' => zah o' (zah o k0)
 have k1 : w.cell? ⟨c, 1, none⟩ = some (.string key) := zab hc 1 rfl
 have k1' := fun o => zah o k1
 have k1'' := fun o o' => zah o' (zah o k1)
 have HB := zaa hb
 have HX := zaa hx
 clear hV hR hp hb hx hr hk hc
 have hS : ∀ W, Below W1.heap.size W1 W -> W.cell? ⟨cb, 0, none⟩ = some (.pointer (some ⟨c, 0, none⟩)) /\ W.cell? ⟨c, 1, none⟩ = some (.string key) /\ W.cell? ⟨w.heap.size, 0, none⟩ = some (.pointer q) /\ W.cell? ⟨w.heap.size, 1, none⟩ = some (.int .i64 T.keys) := fun W h => by
  have hbW := HB.out.trans (h.mono HB.out.size)
  have hv : Blk W1 w.heap.size 88 #[.pointer q, .int .i64 T.keys] := by rw [hW1]; exact (Blk.new _ _ _).alloc _
  have hv' := hv.below h hv.lt
  exact ⟨zbk k0 hbW, zbk k1 hbW, zab hv' 0 rfl, zab hv' 1 rfl⟩
 have hkl := World.block_lt_of_cell? w _ k0
 have hcl := World.block_lt_of_cell? w _ k1
 have hS2 : ∀ W, Below W1.heap.size W1 W -> ((W.setCell ⟨w.heap.size + 1, 0, none⟩ (.string (rK r))).setCell ⟨w.heap.size + 1, 1, none⟩ (.string (rV r))).cell? ⟨cb, 0, none⟩ = some (.pointer (some ⟨c, 0, none⟩)) /\ ((W.setCell ⟨w.heap.size + 1, 0, none⟩ (.string (rK r))).setCell ⟨w.heap.size + 1, 1, none⟩ (.string (rV r))).cell? ⟨c, 1, none⟩ = some (.string key) /\ ((W.setCell ⟨w.heap.size + 1, 0, none⟩ (.string (rK r))).setCell ⟨w.heap.size + 1, 1, none⟩ (.string (rV r))).cell? ⟨w.heap.size, 0, none⟩ = some (.pointer q) /\ ((W.setCell ⟨w.heap.size + 1, 0, none⟩ (.string (rK r))).setCell ⟨w.heap.size + 1, 1, none⟩ (.string (rV r))).cell? ⟨w.heap.size, 1, none⟩ = some (.int .i64 T.keys) := fun W h => by
  obtain ⟨a1, a2, a3, a4⟩ := hS W h
  have ho : Only (fun y => y = w.heap.size + 1) W ((W.setCell ⟨w.heap.size + 1, 0, none⟩ (.string (rK r))).setCell ⟨w.heap.size + 1, 1, none⟩ (.string (rV r))) := (Only.set1 _ _ _ _).set2 _ _
  exact ⟨(ho.cell (p := ⟨cb, 0, none⟩) (World.block_lt_of_cell? W _ a1) (by show ¬ cb = w.heap.size + 1; have : cb < w.heap.size := hkl; omega)).trans a1, (ho.cell (p := ⟨c, 1, none⟩) (World.block_lt_of_cell? W _ a2) (by show ¬ c = w.heap.size + 1; have : c < w.heap.size := hcl; omega)).trans a2, (ho.cell (p := ⟨w.heap.size, 0, none⟩) (World.block_lt_of_cell? W _ a3) (by show ¬ w.heap.size = w.heap.size + 1; omega)).trans a3, (ho.cell (p := ⟨w.heap.size, 1, none⟩) (World.block_lt_of_cell? W _ a4) (by show ¬ w.heap.size = w.heap.size + 1; omega)).trans a4⟩
 have HS := zaa hS
 have HS2 := zaa hS2
 have HS0 := zaa (hS W1.drew (Below.refl _ _).drew)
 have HBD := zaa HB.out.drew
 have HW1 := zaa hW1
 clear hW1 hS hS2 hkl hcl k0 k0' k0'' k1 k1' k1''
 go_enter Tryz.func70, Tryz.ntmps70
 go_wp2
 rw [<- HW1.out]
 clear HW1
 go_region_held3 (fun W => W.cell? ⟨cb, 0, none⟩ = some (.pointer (some ⟨c, 0, none⟩)) /\ W.cell? ⟨c, 1, none⟩ = some (.string key) /\ W.cell? ⟨w.heap.size, 0, none⟩ = some (.pointer q) /\ W.cell? ⟨w.heap.size, 1, none⟩ = some (.int .i64 T.keys)) (first | with_reducible exact HS0.out | with_reducible exact HS1.out | with_reducible exact HS3.out)
  (first
   | (go_at_call 69; (with_reducible refine (HA.out _ HBD.out).mono ?_); rintro e w1 ⟨rfl, hb1⟩
      have hb1' : Below W1.heap.size W1 w1 := (Below.refl _ _).drew.trans hb1
      have HS1 := zaa (HS.out w1 hb1')
      have HS3 := zaa (HS2.out w1 hb1')
      have hx1 := HX.out.below hb1' HX.out.lt
      have g0 := zab hx1 0 rfl
      have g1 := zab hx1 1 rfl
      have z0 : w1.frozen? ⟨w.heap.size + 1, 0, none⟩ = false := hx1.frozen 0
      have z1 : w1.frozen? ⟨w.heap.size + 1, 1, none⟩ = false := hx1.frozen 1
      unfold zao
      have HB1 := zaa hb1'
      have HX1 := zaa hx1
      clear hb1 hx1 hb1'))
 go_wp2
 obtain ⟨WE, hWE⟩ : ∃ WE, WE = (w1.setCell ⟨w.heap.size + 1, 0, none⟩ (.string (rK r))).setCell ⟨w.heap.size + 1, 1, none⟩ (.string (rV r)) := ⟨_, rfl⟩
 rw [<- hWE]
 have hxE : Blk WE (w.heap.size + 1) 68 #[.string (rK r), .string (rV r)] := by rw [hWE]; exact (HX1.out.set_ 0 _).set_ 1 _
 have hbE : Below w.heap.size w WE := by rw [hWE]; exact ((HB.out.trans (HB1.out.mono HB.out.size)).setCell (p := ⟨w.heap.size + 1, 0, none⟩) (by simp) _).setCell (p := ⟨w.heap.size + 1, 1, none⟩) (by simp) _
 have r0 := zab hxE 0 rfl
 have r1 := zab hxE 1 rfl
 exact bodyPost_ret (v := .tuple #[.agg #[.string (rK r), .string (rV r)], .bool r.isSome]) (by simp [results, Tryz.results70, go_sem, r0, r1]) rfl ⟨rfl, hbE⟩
set_option maxHeartbeats 1000000 in
theorem ztr (T : Tree) (q : Option Addr) (ds : List Nat) (w : World) (hV : TreeV (fun z => z < w.heap.size) w T (.pointer q) ds) (hR : TR T) (hp : T.pairs.length <= 150) (c cb t : Nat) (key : Str) (on : Bool) (stamp : Int) (hc : zbj w c t key on stamp) (hk : Blk w cb 64 #[.pointer (some ⟨c, 0, none⟩)]) :
   Calls Tryz.prog 73 #[.agg #[.pointer q, .int .i64 T.keys], .pointer (some ⟨cb, 0, none⟩)] w fun e w' => e = .returned (.tuple #[zao (zcv T key false), .bool (zcv T key false).isSome]) /\ Below w.heap.size w w' := by
 obtain ⟨r, hr⟩ : ∃ r, r = zcv T key false := ⟨_, rfl⟩
 rw [<- hr]
 obtain ⟨W1, hW1⟩ : ∃ W1, W1 = (w.alloc (.cells #[.pointer q, .int .i64 T.keys] 88)).alloc (.cells #[.string ⟨#[]⟩, .string ⟨#[]⟩] 68) := ⟨_, rfl⟩
 have hb : Below w.heap.size w W1 := by rw [hW1]; exact ((Below.refl _ _).alloc (Nat.le_refl _) _).alloc (by simp) _
 have hx : Blk W1 (w.heap.size + 1) 68 #[.string ⟨#[]⟩, .string ⟨#[]⟩] := by rw [hW1]; exact Blk.new2 _ _ _ _
 have HA := zaa (fun W (h : Below w.heap.size w W) => zjb T (.pointer q) ds key false W (hV.below h fun _ k => k) hR hp)
 unfold ze1 zav at HA
 rw [<- hr] at HA
 have k0 := zab hk 0 rfl
 have k0' := fun o => zah o k0
 have k0'' := fun o o' => zah o' (zah o k0)
 have k1 : w.cell? ⟨c, 1, none⟩ = some (.string key) := zab hc 1 rfl
 have k1' := fun o => zah o k1
 have k1'' := fun o o' => zah o' (zah o k1)
 have HB := zaa hb
 have HX := zaa hx
 clear hV hR hp hb hx hr hk hc
 have hS : ∀ W, Below W1.heap.size W1 W -> W.cell? ⟨cb, 0, none⟩ = some (.pointer (some ⟨c, 0, none⟩)) /\ W.cell? ⟨c, 1, none⟩ = some (.string key) /\ W.cell? ⟨w.heap.size, 0, none⟩ = some (.pointer q) /\ W.cell? ⟨w.heap.size, 1, none⟩ = some (.int .i64 T.keys) := fun W h => by
  have hbW := HB.out.trans (h.mono HB.out.size)
  have hv : Blk W1 w.heap.size 88 #[.pointer q, .int .i64 T.keys] := by rw [hW1]; exact (Blk.new _ _ _).alloc _
  have hv' := hv.below h hv.lt
  exact ⟨zbk k0 hbW, zbk k1 hbW, zab hv' 0 rfl, zab hv' 1 rfl⟩
 have hkl := World.block_lt_of_cell? w _ k0
 have hcl := World.block_lt_of_cell? w _ k1
 have hS2 : ∀ W, Below W1.heap.size W1 W -> ((W.setCell ⟨w.heap.size + 1, 0, none⟩ (.string (rK r))).setCell ⟨w.heap.size + 1, 1, none⟩ (.string (rV r))).cell? ⟨cb, 0, none⟩ = some (.pointer (some ⟨c, 0, none⟩)) /\ ((W.setCell ⟨w.heap.size + 1, 0, none⟩ (.string (rK r))).setCell ⟨w.heap.size + 1, 1, none⟩ (.string (rV r))).cell? ⟨c, 1, none⟩ = some (.string key) /\ ((W.setCell ⟨w.heap.size + 1, 0, none⟩ (.string (rK r))).setCell ⟨w.heap.size + 1, 1, none⟩ (.string (rV r))).cell? ⟨w.heap.size, 0, none⟩ = some (.pointer q) /\ ((W.setCell ⟨w.heap.size + 1, 0, none⟩ (.string (rK r))).setCell ⟨w.heap.size + 1, 1, none⟩ (.string (rV r))).cell? ⟨w.heap.size, 1, none⟩ = some (.int .i64 T.keys) := fun W h => by
  obtain ⟨a1, a2, a3, a4⟩ := hS W h
  have ho : Only (fun y => y = w.heap.size + 1) W ((W.setCell ⟨w.heap.size + 1, 0, none⟩ (.string (rK r))).setCell ⟨w.heap.size + 1, 1, none⟩ (.string (rV r))) := (Only.set1 _ _ _ _).set2 _ _
  exact ⟨(ho.cell (p := ⟨cb, 0, none⟩) (World.block_lt_of_cell? W _ a1) (by show ¬ cb = w.heap.size + 1; have : cb < w.heap.size := hkl; omega)).trans a1, (ho.cell (p := ⟨c, 1, none⟩) (World.block_lt_of_cell? W _ a2) (by show ¬ c = w.heap.size + 1; have : c < w.heap.size := hcl; omega)).trans a2, (ho.cell (p := ⟨w.heap.size, 0, none⟩) (World.block_lt_of_cell? W _ a3) (by show ¬ w.heap.size = w.heap.size + 1; omega)).trans a3, (ho.cell (p := ⟨w.heap.size, 1, none⟩) (World.block_lt_of_cell? W _ a4) (by show ¬ w.heap.size = w.heap.size + 1; omega)).trans a4⟩
 have HS := zaa hS
 have HS2 := zaa hS2
 have HS0 := zaa (hS W1.drew (Below.refl _ _).drew)
 have HBD := zaa HB.out.drew
 have HW1 := zaa hW1
 clear hW1 hS hS2 hkl hcl k0 k0' k0'' k1 k1' k1''
 go_enter Tryz.func73, Tryz.ntmps73
 go_wp2
 rw [<- HW1.out]
 clear HW1
 go_region_held3 (fun W => W.cell? ⟨cb, 0, none⟩ = some (.pointer (some ⟨c, 0, none⟩)) /\ W.cell? ⟨c, 1, none⟩ = some (.string key) /\ W.cell? ⟨w.heap.size, 0, none⟩ = some (.pointer q) /\ W.cell? ⟨w.heap.size, 1, none⟩ = some (.int .i64 T.keys)) (first | with_reducible exact HS0.out | with_reducible exact HS1.out | with_reducible exact HS3.out)
  (first
   | (go_at_call 72; (with_reducible refine (HA.out _ HBD.out).mono ?_); rintro e w1 ⟨rfl, hb1⟩
      have hb1' : Below W1.heap.size W1 w1 := (Below.refl _ _).drew.trans hb1
      have HS1 := zaa (HS.out w1 hb1')
      have HS3 := zaa (HS2.out w1 hb1')
      have hx1 := HX.out.below hb1' HX.out.lt
      have g0 := zab hx1 0 rfl
      have g1 := zab hx1 1 rfl
      have z0 : w1.frozen? ⟨w.heap.size + 1, 0, none⟩ = false := hx1.frozen 0
      have z1 : w1.frozen? ⟨w.heap.size + 1, 1, none⟩ = false := hx1.frozen 1
      unfold zao
      have HB1 := zaa hb1'
      have HX1 := zaa hx1
      clear hb1 hx1 hb1'))
 go_wp2
 obtain ⟨WE, hWE⟩ : ∃ WE, WE = (w1.setCell ⟨w.heap.size + 1, 0, none⟩ (.string (rK r))).setCell ⟨w.heap.size + 1, 1, none⟩ (.string (rV r)) := ⟨_, rfl⟩
 rw [<- hWE]
 have hxE : Blk WE (w.heap.size + 1) 68 #[.string (rK r), .string (rV r)] := by rw [hWE]; exact (HX1.out.set_ 0 _).set_ 1 _
 have hbE : Below w.heap.size w WE := by rw [hWE]; exact ((HB.out.trans (HB1.out.mono HB.out.size)).setCell (p := ⟨w.heap.size + 1, 0, none⟩) (by simp) _).setCell (p := ⟨w.heap.size + 1, 1, none⟩) (by simp) _
 have r0 := zab hxE 0 rfl
 have r1 := zab hxE 1 rfl
 exact bodyPost_ret (v := .tuple #[.agg #[.string (rK r), .string (rV r)], .bool r.isSome]) (by simp [results, Tryz.results73, go_sem, r0, r1]) rfl ⟨rfl, hbE⟩
end Go.Proofs.YtemondlgcmpbbaaGreatDoor
