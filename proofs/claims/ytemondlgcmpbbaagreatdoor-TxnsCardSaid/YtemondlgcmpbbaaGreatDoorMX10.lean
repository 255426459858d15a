/- Le Pk Wv: merged. -/
import Derived.Test.YtemondlgcmpbbaaGreatDoorMX09
import Derived.Test.YtemondlgcmpbbaaGreatDoorMX06
namespace Go.Proofs.YtemondlgcmpbbaaGreatDoor
open Go.RowKit
set_option maxRecDepth 100000
set_option maxHeartbeats 2000000 in
theorem znd (K p g base kW : Nat) (s : LdS) (m : Nums) (bytes : List UInt8) (w : World) (hl : LdAt w p s) (ho : zff w s 0 kW) (hd : Dk w K s.db g base s.n (.slice none 0 0) m bytes []) (hc : m.calm) (hf : zbp s.n = true) (hK : K + 5 < zc8) (hh : zay (zal bytes []) = []) (hg : Glob w) (hp0 : p ≠ 0) (hb0 : s.db ≠ 0) :
   Calls Tryz.prog 149 #[.pointer (some ⟨p, 0, none⟩)] w fun e w' => e = .returned (.bool true) /\ LdAt w' p s.closed /\ Dk w' (K + 2) s.db g base s.n (.slice none 0 0) (zbo m 2) bytes [] /\ Only (fun y => y = p \/ y = s.db) w w' := by
 obtain ⟨AM, cM, AW, cW, eM, eW⟩ := LdAt.form (_p := p) ho
 obtain ⟨db, n, may, emp, were, wild, bit, x, c, commits, poi, ts, lists, want⟩ := s
 obtain ⟨hmay, hwere, e1, e2, e3, hkM, hkW⟩ := ho
 simp only at eM eW hmay hwere e1 e2 e3 hd hf hb0
 subst eM eW e1 e2 e3
 have hpd : ¬ dfp db g (.slice none 0 0) p := zdn hd hl (by decide) (by decide) (by decide)
 have HPD := zaa hpd
 have HC := zaa (zen p _ w hl)
 have HD := zaa hd
 have HCA := zaa hc
 have HF := zaa hf
 have HH := zaa hh
 have HG := zaa hg
 clear hl hd hmay hwere hc hpd hf hh hg
 go_enter Tryz.func149, Tryz.ntmps149
 go_wp2_with (first
  | (go_at_call 177; go_loud (
     refine HC.out.mono ?_; rintro e w1 ⟨rfl, hl1, ho1⟩
     have hd1 := HD.out.only ho1 (fun y hy e => HPD.out (e ▸ hy))
     have hl1 : LdAt w1 p ⟨db, n, .slice AM 0 cM, false, .slice AW kW cW, false, false, .pointer none, c, commits, false, .slice none 0 0, lists, want⟩ := hl1
     obtain ⟨k0, _⟩ := zar hl1
     have HT := zaa (zbc db _ _ m w1 hd1.at_)
     have HP := zaa (zoz K db g base n (.slice none 0 0) m bytes [] w1 hd1 HCA.out hK HF.out HH.out)
     have HL1 := zaa hl1
     have HO1 := zaa ho1
     have HD1 := zaa hd1
     have HG1 := zaa (HG.out.only ho1 (fun e => hp0 e.symm))
     clear hl1 ho1 hd1))
  | (go_at_call 178; refine HT.out.mono ?_; rintro e w' ⟨rfl, rfl⟩)
  | (go_at_call 38; go_loud (
     refine HP.out.mono ?_; rintro e w2 ⟨f, rfl, hfa, hzf, hd2, ho2⟩
     have HTF := zaa (zbl f 9 zdh w2 hfa (HG1.out.only ho2 (fun e => hb0 e.symm)))
     have hl2 := Blk.only HL1.out ho2 (fun e => HPD.out (.inl e))
     unfold zag at HTF
     have HL2 := zaa hl2
     have HD2 := zaa hd2
     have HO2 := zaa ho2
     clear hfa hl2 hd2 ho2 k0
     unfold zag))
  | (go_at_call 30; go_loud (
     refine HTF.out.mono ?_; rintro e w3 ⟨rfl, hb3⟩
     have hl3 := Blk.below HL2.out hb3 HL2.out.lt
     obtain ⟨_, k1, k2, k3, k4, k5, k6⟩ := zar (show LdAt w3 p ⟨db, n, .slice AM 0 cM, false, .slice AW kW cW, false, false, .pointer none, c, commits, false, .slice none 0 0, lists, want⟩ from hl3)
     have HL3 := zaa hl3
     have HB3 := zaa hb3
     clear hb3 hl3))
  | (go_at_call 179; refine (za6 _ _).mono ?_; rintro e w' ⟨rfl, rfl⟩)
  | (go_at_call 180; go_loud (
     refine (zem _ _ _ _ _ _ _).mono ?_; rintro e w4 ⟨rfl, hb4⟩
     rw [HF.out]
     have hl4 := Blk.below HL3.out hb4 HL3.out.lt
     obtain ⟨_, q1, q2, q3, q4, q5, q6⟩ := zar (show LdAt w4 p ⟨db, n, .slice AM 0 cM, false, .slice AW kW cW, false, false, .pointer none, c, commits, false, .slice none 0 0, lists, want⟩ from hl4)
     have HL4 := zaa hl4
     have HB4 := zaa hb4
     clear hb4 hl4 k1 k2 k3 k4 k5 k6)))
 go_ret
 exact ⟨rfl, HL4.out, (HD2.out.below HB3.out).below HB4.out, (((HO1.out.mono fun _ _ h => .inl h).trans (HO2.out.mono fun _ _ h => .inr h)).below HB3.out).below HB4.out⟩
structure zvj (w : World) (xb dk rd b : Nat) (hd : Hd) : Prop where
 db : DbAt w xb (DbS.fresh dk rd)
 rd : RdAt w rd []
 dk : Blk w dk 151 (#[dev b] ++ hd.cells)
set_option maxHeartbeats 2000000 in
theorem zne (K p g base kW : Nat) (s : LdS) (m : Nums) (bytes : List UInt8) (hd' : Hd) (tl : List Hd) (w : World) (hl : LdAt w p s) (ho : zff w s 1 kW) (hd : Dk w K s.db g base s.n (.slice none 0 0) m bytes []) (hc : m.calm) (hf : zbp s.n = true) (hK : K + 5 < zc8) (hh : zay (zal bytes []) = hd' :: tl) (hz : hd'.blk = 0) (hkW2 : kW < 90000) :
   Calls Tryz.prog 149 #[.pointer (some ⟨p, 0, none⟩)] w fun e w' => ∃ may' were' xb dk rd, e = .returned (.bool true) /\ LdAt w' p { s.closed with may := may', were := were', x := .pointer (some ⟨xb, 0, none⟩), c := .slice none 0 0, commits := 0 } /\
    zff w' { s.closed with may := may', were := were', x := .pointer (some ⟨xb, 0, none⟩), c := .slice none 0 0, commits := 0 } 1 (kW + 1) /\ zvj w' xb dk rd s.db hd' /\ w.heap.size <= xb /\ w.heap.size <= dk /\ w.heap.size <= rd /\
    Dk w' (K + 3) s.db g base s.n (.slice none 0 0) (zbo m 3) bytes [] /\ Only (fun y => y = p \/ y = s.db \/ y = g) w w' := by
 obtain ⟨AM, cM, AW, cW, eM, eW⟩ := LdAt.form (_p := p) ho
 obtain ⟨db, n, may, emp, were, wild, bit, x, c, commits, poi, ts, lists, want⟩ := s
 obtain ⟨hmay, hwere, e1, e2, e3, hkM, hkW⟩ := ho
 simp only at eM eW hmay hwere e1 e2 e3 hd hf
 subst eM eW e1 e2 e3
 have hpd : ¬ dfp db g (.slice none 0 0) p := zdn hd hl (by decide) (by decide) (by decide)
 have hpl : p < w.heap.size := hl.lt
 have hbl : db < w.heap.size := hd.at_.lt
 have hgl : g < w.heap.size := hd.blk.lt
 have HPD := zaa hpd
 have HC := zaa (zen p _ w hl)
 have HL0 := zaa hl
 have HD := zaa hd
 have HM := zaa hmay
 have HW := zaa hwere
 have HCA := zaa hc
 have HF := zaa hf
 have HH := zaa hh
 clear hl hd hmay hwere hc hpd hf hh
 go_enter Tryz.func149, Tryz.ntmps149
 go_wp2_with (first
  | (go_at_call 177; go_loud (
     refine HC.out.mono ?_; rintro e w1 ⟨rfl, hl1, ho1⟩
     have hd1 := HD.out.only ho1 (fun y hy e => HPD.out (e ▸ hy))
     have hl1 : LdAt w1 p ⟨db, n, .slice AM 1 cM, false, .slice AW kW cW, false, false, .pointer none, c, commits, false, .slice none 0 0, lists, want⟩ := hl1
     obtain ⟨k0, _⟩ := zar hl1
     have HT := zaa (zbc db _ _ m w1 hd1.at_)
     have HP := zaa (zo0 K db g base n (.slice none 0 0) m bytes [] w1 hd1 HCA.out hK HF.out hd' tl HH.out hz)
     have HM1 := zaa (HM.out.only ho1 (fun y cs hy e => by subst e; exact Blk.ne_ hy HL0.out (by decide) rfl))
     have HW1 := zaa (HW.out.only ho1 (fun y cs hy e => by subst e; exact Blk.ne_ hy HL0.out (by decide) rfl))
     have HL1 := zaa hl1
     have HO1 := zaa ho1
     have HD1 := zaa hd1
     clear hl1 ho1 hd1))
  | (go_at_call 178; refine HT.out.mono ?_; rintro e w' ⟨rfl, rfl⟩)
  | (go_at_call 38; go_loud (
     refine HP.out.mono ?_; rintro e w2 ⟨xb, dk, rd, rfl, hx2, hr2, hdk2, hzx, hzd, hzr, hd2, ho2⟩
     have hl2 := Blk.only HL1.out ho2 (fun e => HPD.out (by rcases e with e | e; exact .inl e; exact .inr (.inl e)))
     obtain ⟨_, k1, k2, k3, k4, k5, k6⟩ := zar (show LdAt w2 p ⟨db, n, .slice AM 1 cM, false, .slice AW kW cW, false, false, .pointer none, c, commits, false, .slice none 0 0, lists, want⟩ from hl2)
     have hfp : ∀ y cs, Blk w1 y 241 cs -> ¬ (y = db \/ y = g) := fun y cs hy e => by
      rcases e with e | e
      . subst e; exact Blk.ne_ hy HD1.out.at_ (by decide) rfl
      . subst e; exact Blk.ne_ hy HD1.out.blk (by decide) rfl
     have HM2 := zaa (HM1.out.only ho2 hfp)
     have HW2 := zaa (HW1.out.only ho2 hfp)
     have HL2 := zaa hl2
     have HD2 := zaa hd2
     have HO2 := zaa ho2
     have HX2 := zaa hx2
     have HR2 := zaa hr2
     have HDK2 := zaa hdk2
     clear hl2 hd2 ho2 hx2 hr2 hdk2 k0 hfp))
  | (go_at_call 30; refine (zcq _).mono ?_; rintro e w' ⟨rfl, rfl⟩)
  | (go_at_call 179; refine (za6 _ _).mono ?_; rintro e w' ⟨rfl, rfl⟩)
  | (go_at_call 180; go_loud (
     refine (zem _ _ _ _ _ _ _).mono ?_; rintro e w4 ⟨rfl, hb4⟩
     rw [HF.out]
     have hl4 := Blk.below HL2.out hb4 HL2.out.lt
     have hx4 := Blk.below HX2.out hb4 HX2.out.lt
     have hr4 := HR2.out.only (fp := fun _ => False) (Only.of_below hb4) id
     have HFD := zaa (zqm (K + 3) p g base kW xb dk rd ⟨db, n, .slice AM 1 cM, false, .slice AW kW cW, false, false, .pointer none, c, commits, false, .slice none 0 0, lists, want⟩ (zbo m 3) bytes w4 hl4 ⟨HM2.out.below hb4, HW2.out.below hb4, rfl, rfl, rfl, by omega, hkW⟩ (HD2.out.below hb4) hx4 hr4 hkW2)
     have HB4 := zaa hb4
     clear hb4 hl4 hx4 hr4 k1 k2 k3 k4 k5 k6))
  | (go_at_call 183; refine HFD.out.mono ?_; rintro e w5 ⟨may', were', rfl, hl5, ho5, hx5, hr5, ho5'⟩))
 go_ret
 have h1s := HO1.out.size
 have hfpd : ∀ y, dfp db g (.slice none 0 0) y -> ¬ (y = p \/ y = xb \/ y = rd) := fun y hy e => by
  have hylt : y < w.heap.size := HD.out.lt hy
  rcases e with e | e | e
  . subst e; exact HPD.out hy
  . omega
  . omega
 have hdkne : ¬ (dk = p \/ dk = xb \/ dk = rd) := fun e => by
  rcases e with e | e | e
  . omega
  . subst e; exact Blk.ne_ HDK2.out HX2.out (by decide) rfl
  . subst e; exact HR2.out.ne_blk HDK2.out rfl
 refine ⟨may', were', xb, dk, rd, rfl, hl5, ho5, ⟨hx5, hr5, (HDK2.out.below HB4.out HDK2.out.lt).only ho5' hdkne⟩, by omega, by omega, by omega, (HD2.out.below HB4.out).only ho5' hfpd, ?_⟩
 have h2 : Only (fun y => y = p \/ y = db \/ y = g) w w4 := ((HO1.out.mono fun _ _ h => .inl h).trans (HO2.out.mono fun _ _ h => .inr h)).below HB4.out
 exact h2.trans' ho5' (fun y hy e => by rcases e with e | e | e; exact .inl e; omega; omega)
def I64 (n : Int) : Prop := -9223372036854775808 <= n /\ n <= 9223372036854775807
def pickN (c : Int) (n : Nat) : Nat := (if c < 0 then (-(c + 1)).toNat else c.toNat) % n
theorem zgg (c : Int) (n : Nat) (h : 0 < n) : pickN c n < n := Nat.mod_lt _ h
theorem zhq (c : Int) (n : Nat) (w : World) (hc : I64 c) (hn : 0 < n) (hn2 : n <= 1000000) :
   Calls Tryz.prog 147 #[.int .i64 c, .int .i64 n] w fun e w' => e = .returned (.int .i64 (pickN c n)) /\ w = w' := by
 obtain ⟨h1, h2⟩ := hc
 have hn0 : ¬ (n : Int) = 0 := by omega
 have hn00 : ¬ n = 0 := by omega
 by_cases h0 : c < 0
 . obtain ⟨q, hq⟩ : ∃ q : Nat, c = -(q : Int) - 1 := ⟨(-(c + 1)).toNat, by omega⟩
   have hp : pickN c n = q % n := by unfold pickN; rw [if_pos h0, show (-(c + 1)).toNat = q by omega]
   rw [hp]
   subst hq
   have w1 : IntKind.i64.wrap (-(q : Int) - 1 + 1) = -(q : Int) := by rw [IntKind.wrap_i64]; omega
   have w2 : IntKind.i64.wrap (-(-(q : Int))) = (q : Int) := by rw [IntKind.wrap_i64]; omega
   have w2' : IntKind.i64.wrap (q : Int) = (q : Int) := by rw [IntKind.wrap_i64]; omega
   have hm : Int.tmod (q : Int) n = (q : Int) % n := Int.tmod_eq_emod_of_nonneg (by omega)
   have HPP := zaa hp
   clear hp
   go_enter Tryz.func147, Tryz.ntmps147
   go_wp2
   go_ret
   exact ⟨by simp, rfl⟩
 . obtain ⟨q, hq⟩ : ∃ q : Nat, c = (q : Int) := ⟨c.toNat, by omega⟩
   have hp : pickN c n = q % n := by unfold pickN; rw [if_neg h0, hq]; rfl
   rw [hp]
   subst hq
   have hm : Int.tmod (q : Int) n = (q : Int) % n := Int.tmod_eq_emod_of_nonneg (by omega)
   have HPP := zaa hp
   clear hp
   go_enter Tryz.func147, Tryz.ntmps147
   go_wp2
   go_ret
   exact ⟨by simp, rfl⟩
theorem zqn (c : Int) (w : World) :
   Calls Tryz.prog 174 #[.int .i64 c] w fun e w' => e = .returned (.int .i64 (blocksN c)) /\ w = w' := by
 by_cases h0 : c < 0
 . have hb : blocksN c = 0 := by unfold blocksN; rw [if_pos h0]
   rw [hb]
   go_enter Tryz.func174, Tryz.ntmps174
   go_wp2
   go_ret
   exact ⟨rfl, rfl⟩
 . obtain ⟨q, hq⟩ : ∃ q : Nat, c = (q : Int) := ⟨c.toNat, by omega⟩
   have hb : blocksN c = q % 1000 := by unfold blocksN; rw [if_neg h0, hq]; omega
   rw [hb]
   subst hq
   have hm : Int.tmod (q : Int) 1000 = (q : Int) % 1000 := Int.tmod_eq_emod_of_nonneg (by omega)
   have HB := zaa hb
   clear hb
   go_enter Tryz.func174, Tryz.ntmps174
   go_wp2
   go_ret
   exact ⟨by simp, rfl⟩
structure OpS where
 kind : Int
 x : Int
 y : Int
 a : Int
 b : Int
 s : ByteArray
 t : ByteArray
def OpS.cells (o : OpS) : Array Value := #[.int .i64 o.kind, .int .i64 o.x, .int .i64 o.y, .int .i64 o.a, .int .i64 o.b, .string o.s, .string o.t]
structure OpS.ok (o : OpS) : Prop where
 kind : I64 o.kind
 x : I64 o.x
 y : I64 o.y
 a : I64 o.a
 b : I64 o.b
 s : o.s.size <= 9223372036854775807
 t : o.t.size <= 9223372036854775807
structure DkB where
 p : Nat
 db : Nat
 g : Nat
def DkB.has (d : DkB) (y : Nat) : Prop := y = d.p \/ y = d.db \/ y = d.g
def DkB.apart (a b : DkB) : Prop := a.p ≠ b.p /\ a.db ≠ b.db /\ a.g ≠ b.g
structure DiskOk (w : World) (B N : Nat) (d : DkB) (s : LdS) (m : Nums) (bytes : List UInt8) (kM kW : Nat) : Prop where
 at_ : LdAt w d.p s
 ok : zff w s kM kW
 dk : Dk w (5 * N) d.db d.g 0 s.n (.slice none 0 0) m bytes []
 db : s.db = d.db
 calm : m.calm
 hz : Hz (zal bytes []) N
 few : kW <= N
 st : (zay (zal bytes []) = [] /\ kM = 0) \/ (∃ hd tl, zay (zal bytes []) = hd :: tl /\ kM = 1)
 lo : B <= d.p /\ B <= d.db /\ B <= d.g
 lt : s.n < 1000
def DiskIs (w : World) (B N : Nat) (d : DkB) : Prop := ∃ s m bytes kM kW, DiskOk w B N d s m bytes kM kW
section
variable {w w' : World} {B N : Nat} {d : DkB} {s : LdS} {m : Nums} {bytes : List UInt8} {kM kW : Nat}
theorem DiskOk.has_ne (h : DiskOk w B N d s m bytes kM kW) {y : Nat} {T : TypeId} {cs : Array Value} (hy : Blk w y T cs) (h1 : T ≠ 245) (h2 : T ≠ 103) (h3 : T ≠ 111) : ¬ d.has y := fun e => by
 rcases e with e | e | e
 . subst e; exact Blk.ne_ hy h.at_ h1 rfl
 . subst e; exact Blk.ne_ hy h.dk.at_ h2 rfl
 . subst e; exact Blk.ne_ hy h.dk.blk h3 rfl
theorem DiskOk.only {fp : Nat -> Prop} (h : DiskOk w B N d s m bytes kM kW) (ho : Only fp w w') (hp : ¬ fp d.p) (hdb : ¬ fp d.db) (hg : ¬ fp d.g) (hm : ∀ x cs, Blk w x 241 cs -> ¬ fp x) : DiskOk w' B N d s m bytes kM kW :=
 ⟨Blk.only h.at_ ho hp, ⟨h.ok.may.only ho hm, h.ok.were.only ho hm, h.ok.emp, h.ok.wild, h.ok.bit, h.ok.kM, h.ok.kW⟩, h.dk.only ho (fun y hy e => by
  rcases hy with hy | hy | hy
  . subst hy; exact hdb e
  . subst hy; exact hg e
  . cases hy), h.db, h.calm, h.hz, h.few, h.st, h.lo, h.lt⟩
theorem DiskOk.more (h : DiskOk w B N d s m bytes kM kW) : DiskOk w B (N + 1) d s m bytes kM kW :=
 ⟨h.at_, h.ok, h.dk.more (by omega), h.db, h.calm, h.hz.mono (by omega), by have := h.few; omega, h.st, h.lo, h.lt⟩
theorem DiskIs.more (h : DiskIs w B N d) : DiskIs w B (N + 1) d := by
 obtain ⟨s, m, bytes, kM, kW, h⟩ := h
 exact ⟨s, m, bytes, kM, kW, h.more⟩
theorem DiskIs.below (h : DiskIs w B N d) (hb : Below w.heap.size w w') : DiskIs w' B N d := by
 obtain ⟨s, m, bytes, kM, kW, h⟩ := h
 exact ⟨s, m, bytes, kM, kW, h.only (fp := fun _ => False) (Only.of_below hb) id id id (fun _ _ _ => id)⟩
end
def zvx (d : DkB) : Value := .pointer (some ⟨d.p, 0, none⟩)
structure WIs (w : World) (B N wb : Nat) (keepv disksv : Value) (xs : List Value) (ds : List DkB) : Prop where
 at_ : Blk w wb 186 #[keepv, disksv]
 keep : w.ownsRow B 3 1 keepv xs.length xs
 disks : w.ownsRow B 235 1 disksv ds.length (ds.map zvx)
 each : ∀ d ∈ ds, DiskIs w B N d
 apart : ds.Pairwise DkB.apart
 kl : xs.length <= N
 dl : ds.length <= N
 lo : B <= wb
def WI (w : World) (B N wb : Nat) : Prop := ∃ keepv disksv xs ds, WIs w B N wb keepv disksv xs ds
section
variable {w w' : World} {B N wb : Nat} {keepv disksv : Value} {xs : List Value} {ds : List DkB}
theorem WIs.more (h : WIs w B N wb keepv disksv xs ds) : WIs w B (N + 1) wb keepv disksv xs ds :=
 ⟨h.at_, h.keep, h.disks, fun d hd => (h.each d hd).more, h.apart, by have := h.kl; omega, by have := h.dl; omega, h.lo⟩
theorem WIs.below (h : WIs w B N wb keepv disksv xs ds) (hb : Below w.heap.size w w') : WIs w' B N wb keepv disksv xs ds :=
 ⟨h.at_.below hb h.at_.lt, zap h.keep hb, zap h.disks hb, fun d hd => (h.each d hd).below hb, h.apart, h.kl, h.dl, h.lo⟩
theorem WIs.turn (h : WIs w B N wb keepv disksv xs ds) {d : DkB} (hm : d ∈ ds) (ho : Only d.has w w') (hd : DiskIs w' B (N + 1) d) : WIs w' B (N + 1) wb keepv disksv xs ds := by
 obtain ⟨s0, m0, by0, kM0, kW0, h0⟩ := h.each d hm
 refine ⟨h.at_.only ho (h0.has_ne h.at_ (by decide) (by decide) (by decide)), zak h.keep ho (fun x cs hx => h0.has_ne hx (by decide) (by decide) (by decide)), zak h.disks ho (fun x cs hx => h0.has_ne hx (by decide) (by decide) (by decide)), ?_, h.apart, by have := h.kl; omega, by have := h.dl; omega, h.lo⟩
 intro e he
 by_cases hed : e = d
 . subst hed; exact hd
 . obtain ⟨s1, m1, by1, kM1, kW1, h1⟩ := h.each e he
   have hap : e.p ≠ d.p /\ e.db ≠ d.db /\ e.g ≠ d.g := by
    rcases List.Pairwise.forall_of_forall_of_flip (R := fun a b => a = b \/ (a.p ≠ b.p /\ a.db ≠ b.db /\ a.g ≠ b.g)) (fun x _ => .inl rfl) (h.apart.imp fun h => .inr h) (h.apart.imp fun h => .inr ⟨h.1.symm, h.2.1.symm, h.2.2.symm⟩) he hm with h | h
    . exact absurd h hed
    . exact h
   refine (show DiskIs w' B N e from ⟨s1, m1, by1, kM1, kW1, h1.only ho ?_ ?_ ?_ (fun x cs hx => h0.has_ne hx (by decide) (by decide) (by decide))⟩).more
   . rintro (k | k | k)
     . exact hap.1 k
     . exact Blk.ne_ h1.at_ h0.dk.at_ (by decide) k
     . exact Blk.ne_ h1.at_ h0.dk.blk (by decide) k
   . rintro (k | k | k)
     . exact Blk.ne_ h1.dk.at_ h0.at_ (by decide) k
     . exact hap.2.1 k
     . exact Blk.ne_ h1.dk.at_ h0.dk.blk (by decide) k
   . rintro (k | k | k)
     . exact Blk.ne_ h1.dk.blk h0.at_ (by decide) k
     . exact Blk.ne_ h1.dk.blk h0.dk.at_ (by decide) k
     . exact hap.2.2 k
end
section
variable {w : World} {B N : Nat} {d : DkB}
end
end Go.Proofs.YtemondlgcmpbbaaGreatDoor
