/- Zf Zg: merged. -/
import Derived.Test.YtemondlgcmpbbaaGreatDoorMX28
import Derived.Deep.RegionHeld3
namespace Go.Proofs.YtemondlgcmpbbaaGreatDoor
open Go.RowKit
set_option maxRecDepth 100000
section
variable {w : World} {B N p x : Nat} {s : LdS} {bv cv : Value} {m : Nums} {τ : TxI} {S : DbS}
def zjp (w : World) (x : Nat) (S : DbS) (op : Str) (c : Nat) : Ending -> World -> Prop := fun e w1 => ∃ f, e = .returned (zag f) /\ zao w1 f op c /\ DbAt w1 x S /\ Only (· = x) w w1
set_option maxHeartbeats 4000000 in
theorem zpv (del : Bool) (k v : Str) (c : Nat) (hl : LdAt w p s) (hpoi : s.poi = false) (hdev : DkAt w s.db bv cv m) (hτ : TxOk w x B N τ) (hD : DbAt w x S) (hg : Glob w) (hx0 : x ≠ 0) (hk : k.size <= 9223372036854775807) (hv : v.size <= 9223372036854775807)
   (hc : chgN τ.wr τ.done k (if del = true then ⟨#[]⟩ else v) = c) (hc0 : c ≠ 0)
   (hdel : del = true -> Calls Tryz.prog 23 #[pkv τ.t, .string k] w (zjp w x S opDelete c))
   (hput : del = false -> Calls Tryz.prog 24 #[pkv τ.t, .string k, .string v] w (zjp w x S opPut c)) :
   Calls Tryz.prog 184 #[pkv p, pkv τ.l, .string k, .string v, .bool del] w fun e w' => e = .returned (.bool true) /\ DbAt w' x S /\ Only (· = x) w w' := by
 have hpx : p ≠ x := Blk.ne_ hl hD (by decide)
 have hlx : τ.l ≠ x := Blk.ne_ hτ.law hD (by decide)
 have hlen := hτ.len
 obtain ⟨l, t, wr, done, st, most, T, rp, dn, lv, csv, cs⟩ := τ
 obtain ⟨db, n, may, emp, were, wild, bit, xv, cc, commits, poi, ts, lists, want⟩ := s
 simp only at hpoi hdev hlen hlx hc hdel hput
 subst hpoi
 have HT := zaa (zbc db bv cv m w hdev)
 obtain ⟨t0, _⟩ := zbm hτ.law
 have k0 := (zar hl).1
 have hcell : ∀ W W2, Only (· = x) w W -> Below W.heap.size W W2 -> (W2.cell? ⟨l, 1, none⟩ = some lv /\ W2.cell? ⟨l, 2, none⟩ = some (.bool wr) /\ W2.cell? ⟨l, 3, none⟩ = some (.bool done) /\ W2.cell? ⟨l, 4, none⟩ = some (.int .i64 st) /\ W2.cell? ⟨l, 5, none⟩ = some (.int .i64 most) /\ W2.cell? ⟨l, 6, none⟩ = some (.int .i64 0) /\ W2.cell? ⟨l, 7, none⟩ = some (.int .i64 st)) /\ W2.cell? ⟨p, 10, none⟩ = some (.bool false) := fun W W2 ho hb => by
  have h1 := (Blk.only hτ.law ho hlx)
  have h1 := Blk.below h1 hb h1.lt
  have h2 := Blk.only hl ho hpx
  have h2 := Blk.below h2 hb h2.lt
  exact ⟨⟨zab h1 1 rfl, zab h1 2 rfl, zab h1 3 rfl, zab h1 4 rfl, zab h1 5 rfl, zab h1 6 rfl, zab h1 7 rfl⟩, zab h2 10 rfl⟩
 have hglob : ∀ W, Only (· = x) w W -> Glob W := fun W ho => hg.only ho (fun e => hx0 e.symm)
 obtain ⟨v', hv'⟩ : ∃ v', v' = if del = true then (⟨#[]⟩ : Str) else v := ⟨_, rfl⟩
 rw [<- hv'] at hc
 have hv2 : v'.size <= 9223372036854775807 := by
  rw [hv']
  split
  . exact Nat.zero_le _
  . exact hv
 have HCH := zaa (fun W => zgq lv wr done st most 0 st k v' W (by omega) (by omega))
 rw [hc] at HCH
 have HC := zaa hcell
 have HGL := zaa hglob
 have e1 : ¬ (c : Int) = 0 := by omega
 have e2 : ((c : Int) == 0) = false := by simpa using e1
 have e3 : ((c : Int) == (c : Int)) = true := by simp
 unfold pkv at *
 clear hτ hl hD hcell hglob hdev hc hv2 hg
 cases del with
 | true =>
   have HDEL := zaa (hdel rfl)
   simp only [if_true] at hv'
   subst hv'
   clear hdel hput
   go_enter Tryz.func184, Tryz.ntmps184
   go_wp2_with (first
    | (go_at_call 178; refine HT.out.mono ?_; rintro e w' ⟨rfl, rfl⟩)
    | (go_at_call 23; go_loud (
       refine HDEL.out.mono ?_; rintro e w1 ⟨f, rfl, hf, hd1, ho1⟩
       have HTF := zaa (zbl f c _ w1 hf (HGL.out _ ho1))
       have HD1 := zaa hd1
       have HO1 := zaa ho1
       clear hd1 ho1 hf
       unfold zag at HTF
       unfold zag))
    | (go_at_call 30; go_loud (
       refine HTF.out.mono ?_; rintro e w2 ⟨rfl, hb2⟩
       obtain ⟨⟨l1, l2, l3, l4, l5, l6, l7⟩, p10⟩ := HC.out _ _ HO1.out hb2
       have HB2 := zaa hb2
       have HBK := zaa (fun W (h : Below w2.heap.size w2 W) => HC.out w1 W HO1.out (hb2.trans (h.mono hb2.size)))
       clear hb2))
    | (go_at_call 179; refine (za6 _ _).mono ?_; rintro e w' ⟨rfl, rfl⟩)
    | (go_at_call 203; go_loud (
       refine (HCH.out _).mono ?_; rintro e w3 ⟨rfl, hb3⟩
       obtain ⟨_, p10'⟩ := HBK.out w3 hb3
       clear l1 l2 l3 l4 l5 l6 l7 p10
       have HB3 := zaa hb3
       clear hb3)))
   all_goals (go_ret; exact ⟨rfl, Blk.below (Blk.below HD1.out HB2.out HD1.out.lt) HB3.out (Blk.below HD1.out HB2.out HD1.out.lt).lt, (HO1.out.below HB2.out).below HB3.out⟩)
 | false =>
   have HPUT := zaa (hput rfl)
   simp only [if_neg (show ¬ false = true by simp)] at hv'
   subst hv'
   clear hdel hput
   go_enter Tryz.func184, Tryz.ntmps184
   go_wp2_with (first
    | (go_at_call 178; refine HT.out.mono ?_; rintro e w' ⟨rfl, rfl⟩)
    | (go_at_call 24; go_loud (
       refine HPUT.out.mono ?_; rintro e w1 ⟨f, rfl, hf, hd1, ho1⟩
       have HTF := zaa (zbl f c _ w1 hf (HGL.out _ ho1))
       have HD1 := zaa hd1
       have HO1 := zaa ho1
       clear hd1 ho1 hf
       unfold zag at HTF
       unfold zag))
    | (go_at_call 30; go_loud (
       refine HTF.out.mono ?_; rintro e w2 ⟨rfl, hb2⟩
       obtain ⟨⟨l1, l2, l3, l4, l5, l6, l7⟩, p10⟩ := HC.out _ _ HO1.out hb2
       have HB2 := zaa hb2
       have HBK := zaa (fun W (h : Below w2.heap.size w2 W) => HC.out w1 W HO1.out (hb2.trans (h.mono hb2.size)))
       clear hb2))
    | (go_at_call 179; refine (za6 _ _).mono ?_; rintro e w' ⟨rfl, rfl⟩)
    | (go_at_call 203; go_loud (
       refine (HCH.out _).mono ?_; rintro e w3 ⟨rfl, hb3⟩
       obtain ⟨_, p10'⟩ := HBK.out w3 hb3
       clear l1 l2 l3 l4 l5 l6 l7 p10
       have HB3 := zaa hb3
       clear hb3)))
   all_goals (go_ret; exact ⟨rfl, Blk.below (Blk.below HD1.out HB2.out HD1.out.lt) HB3.out (Blk.below HD1.out HB2.out HD1.out.lt).lt, (HO1.out.below HB2.out).below HB3.out⟩)
end
def zrd (w : World) (x t : Nat) (S : DbS) (T' : Tree) (st : Int) : Ending -> World -> Prop := fun e w1 => e = .returned .nilIface /\ DbAt w1 x S /\ (∃ rp' dn', TxAt w1 t ⟨x, rp', T'.keys, true, false, st + 1⟩ /\ TreeV (fun z => z < w1.heap.size) w1 T' rp' dn' /\ dn'.Nodup) /\ Only (fun y => y = t \/ y = x) w w1
def zjq (w w' : World) (x : Nat) (S : DbS) (τ : TxI) (T' : Tree) : Prop :=
 ∃ rp' dn' lv' most', zeg w' { τ with st := τ.st + 1, most := most', T := T', rp := rp', dn := dn', lv := lv' } /\ TxAt w' τ.t ⟨x, rp', T'.keys, true, false, τ.st + 1⟩ /\ TreeV (fun z => z < w'.heap.size) w' T' rp' dn' /\ dn'.Nodup /\ RRow w' lv' T'.pairs /\ DbAt w' x S /\ T'.pairs.length <= most' /\ most' <= 140 /\ Only (fun y => y = τ.l \/ y = τ.t \/ y = x) w w'
section
variable {w : World} {B N p x : Nat} {s : LdS} {bv cv : Value} {m : Nums} {τ : TxI} {S : DbS}
set_option maxHeartbeats 4000000 in
theorem znw (k v : Str) (T' : Tree) (hl : LdAt w p s) (hpoi : s.poi = false) (hdev : DkAt w s.db bv cv m) (hτ : TxOk w x B N τ) (hD : DbAt w x S) (hN : N <= 16384) (hwr : τ.wr = true) (hdo : τ.done = false) (hk : k.size <= 9223372036854775807) (hv : v.size <= 9223372036854775807)
   (hc : chgN true false k v = 0) (hP : T'.pairs = zcp k v τ.T.pairs) (hP2 : T'.pairs.length <= 140)
   (hput : Calls Tryz.prog 24 #[pkv τ.t, .string k, .string v] w (zrd w x τ.t S T' τ.st)) :
   Calls Tryz.prog 184 #[pkv p, pkv τ.l, .string k, .string v, .bool false] w fun e w' => e = .returned (.bool true) /\ zjq w w' x S τ T' := by
 have hpx : p ≠ x := Blk.ne_ hl hD (by decide)
 have hpt : p ≠ τ.t := Blk.ne_ hl hτ.tx (by decide)
 have hlx : τ.l ≠ x := Blk.ne_ hτ.law hD (by decide)
 have hlt : τ.l ≠ τ.t := Blk.ne_ hτ.law hτ.tx (by decide)
 have hpl : p ≠ τ.l := Blk.ne_ hl hτ.law (by decide)
 have hlen := hτ.len
 have hst := hτ.st
 have hmost := hτ.most
 have hll : τ.l < w.heap.size := hτ.law.lt
 have hpll : p < w.heap.size := hl.lt
 obtain ⟨l, t, wr, done, st, most, T, rp, dn, lv, csv, cs⟩ := τ
 obtain ⟨db, n, may, emp, were, wild, bit, xv, cc, commits, poi, ts, lists, want⟩ := s
 simp only at hpoi hdev hlen hlx hlt hpt hpl hput hwr hdo hst hmost hP hll
 subst hpoi hwr hdo
 have HT := zaa (zbc db bv cv m w hdev)
 obtain ⟨t0, _⟩ := zbm hτ.law
 have k0 := (zar hl).1
 have hcell : ∀ W W2, Only (fun y => y = t \/ y = x) w W -> Below W.heap.size W W2 -> zeg W2 ⟨l, t, true, false, st, most, T, rp, dn, lv, csv, cs⟩ /\ W2.cell? ⟨p, 10, none⟩ = some (.bool false) /\ RRow W2 lv T.pairs := fun W W2 ho hb => by
  have h1 := (Blk.only hτ.law ho (fun e => by rcases e with e | e; exact hlt e; exact hlx e))
  have h2 := Blk.only hl ho (fun e => by rcases e with e | e; exact hpt e; exact hpx e)
  have h2 := Blk.below h2 hb h2.lt
  exact ⟨Blk.below h1 hb h1.lt, zab h2 10 rfl, (hτ.row.only ho (fun z cs hz e => by
   rcases e with e | e
   . subst e; exact Blk.ne_ hz hτ.tx (by decide) rfl
   . subst e; exact Blk.ne_ hz hD (by decide) rfl)).below hb⟩
 have HCH := zaa (fun W => zgq lv true false st most 0 st k v W (by omega) (by omega))
 rw [hc] at HCH
 have HW := zaa (fun W (h : RRow W lv T.pairs) => zir lv T.pairs k v W h (by omega))
 rw [<- hP] at HW
 have HC := zaa hcell
 have e1 : IntKind.i64.wrap (st + 1) = st + 1 := by rw [IntKind.wrap_i64]; omega
 have HPUT := zaa hput
 unfold pkv at *
 clear hτ hl hD hcell hdev hc hput hP
 go_enter Tryz.func184, Tryz.ntmps184
 go_upto_region 15 with (first
  | (go_at_call 178; refine HT.out.mono ?_; rintro e w' ⟨rfl, rfl⟩)
  | (go_at_call 24; go_loud (
     refine HPUT.out.mono ?_; rintro e w1 ⟨rfl, hd1, ⟨rp', dn', hT1, hV1, hN1⟩, ho1⟩
     obtain ⟨hL1, p10, hr1⟩ := HC.out w1 w1 ho1 (Below.refl _ _)
     obtain ⟨_, l1, l2, l3, l4, l5, l6, l7, _⟩ := zbm hL1
     have HD1 := zaa hd1
     have HO1 := zaa ho1
     have HT1 := zaa hT1
     have HV1 := zaa hV1
     have HN1 := zaa hN1
     clear hd1 ho1 hT1 hV1 hN1 hr1 hL1))
  | (go_at_call 30; refine (zcq _).mono ?_; rintro e w' ⟨rfl, rfl⟩)
  | (go_at_call 179; refine (za6 _ _).mono ?_; rintro e w' ⟨rfl, rfl⟩)
  | (go_at_call 203; go_loud (
     refine (HCH.out _).mono ?_; rintro e w2 ⟨rfl, hb2⟩
     clear p10 l1 l2 l3 l4 l5 l6 l7
     obtain ⟨hL2, p10, hr2⟩ := HC.out w1 w2 HO1.out hb2
     obtain ⟨_, l1, _⟩ := zbm hL2
     have HR2 := zaa (HW.out w2 hr2)
     have HB2 := zaa hb2
     clear hb2 hr2 hL2))
  | (go_at_call 204; go_loud (
     refine HR2.out.mono ?_; rintro e w3 ⟨lv', rfl, hr3, hb3⟩
     obtain ⟨A', c', hA⟩ := hr3.form
     subst hA
     have hb := HB2.out.trans (hb3.mono HB2.out.size)
     obtain ⟨hL3, p10', _⟩ := HC.out w1 w3 HO1.out hb
     have HR3 := zaa hr3
     have HB3 := zaa hb
     have HL3 := zaa hL3
     clear hr3 hb3 hb hL3 l1 p10)))
 obtain ⟨W4, hW4⟩ : ∃ W4, W4 = w3.alloc (.cells #[.slice A' T'.pairs.length c'] 241) := ⟨_, rfl⟩
 rw [<- hW4]
 have hb4 : Below w3.heap.size w3 W4 := by rw [hW4]; exact (Below.refl _ _).alloc (Nat.le_refl _) _
 have hbx : Blk W4 w3.heap.size 241 #[.slice A' T'.pairs.length c'] := by rw [hW4]; exact Blk.new _ _ _
 have hL4 := Blk.below HL3.out hb4 (Blk.lt HL3.out)
 have hne : ¬ w3.heap.size = l := fun e => by have := Blk.lt HL3.out; simp only at this; omega
 have hne' : ¬ l = w3.heap.size := fun e => hne e.symm
 have bx := zab hbx 0 rfl
 have l1 := zab hL4 1 rfl
 have z1 : W4.frozen? ⟨l, 1, none⟩ = false := Blk.frozen hL4 1
 have HB4 := zaa hb4
 have HBX := zaa hbx
 have HL4 := zaa hL4
 have HW4 := zaa hW4
 clear hb4 hbx hL4 hW4 p10'
 go_upto_region 20 with fail
 obtain ⟨W5, hW5⟩ : ∃ W5, W5 = W4.setCell ⟨l, 1, none⟩ (.slice A' T'.pairs.length c') := ⟨_, rfl⟩
 rw [<- hW5]
 have ho5 : Only (· = l) W4 W5 := by rw [hW5]; exact Only.set1 _ _ _ _
 have hL5 := Blk.set_ HL4.out 1 (.slice A' T'.pairs.length c')
 rw [<- hW5] at hL5
 have hbx5 := HBX.out.only ho5 hne
 have bx5 := zab hbx5 0 rfl
 have l4 := zab hL5 4 rfl
 have l5 := zab hL5 5 rfl
 have l7 := zab hL5 7 rfl
 have z4 : W5.frozen? ⟨l, 4, none⟩ = false := Blk.frozen hL5 4
 have z5 : W5.frozen? ⟨l, 5, none⟩ = false := Blk.frozen hL5 5
 have z7 : W5.frozen? ⟨l, 7, none⟩ = false := Blk.frozen hL5 7
 have HL5 := zaa hL5
 have HO5 := zaa ho5
 clear hL5 ho5 hbx5 hW5 bx z1 l1
 go_region_held3 (fun w' => w'.cell? ⟨w3.heap.size, 0, none⟩ = some (.slice A' T'.pairs.length c') /\ w'.cell? ⟨l, 5, none⟩ = some (.int .i64 most)) (first | go_keep | exact ⟨bx5, l5⟩) (fail)
 have hfin : ∀ W most', Only (· = l) W5 W -> Blk W l 273 #[.pointer (some ⟨t, 0, none⟩), .slice A' T'.pairs.length c', .bool true, .bool false, .int .i64 (st + 1), .int .i64 (most' : Nat), .int .i64 0, .int .i64 (st + 1), csv] -> T'.pairs.length <= most' -> most' <= 140 -> zjq w W x S ⟨l, t, true, false, st, most, T, rp, dn, lv, csv, cs⟩ T' := by
  intro W most' hoW hLW hm1 hm2
  have b14 : Below w1.heap.size w1 W4 := HB3.out.trans (HB4.out.mono HB3.out.size)
  have o45 : Only (· = l) W4 W := HO5.out.trans hoW
  have ht4 := Blk.below HT1.out b14 (Blk.lt HT1.out)
  have hd4 := Blk.below HD1.out b14 (Blk.lt HD1.out)
  have hl1 : l < w1.heap.size := Nat.lt_of_lt_of_le hll HO1.out.size
  have hv : TreeV (fun z => z < W.heap.size) W T' rp' dn' := by
   have hbW : Only (· = l) w1 W := (Only.of_below b14).trans o45
   refine (HV1.out.only hbW fun z X cs _ hz hi e => ?_).imp id fun ⟨a, n, b, e1, e2, e3⟩ => ⟨a, n, b, e1, e2, e3.more fun _ hz => Nat.lt_of_lt_of_le hz hbW.size⟩
   have e' : z = l := e
   subst e'
   have h4 := Blk.below hz b14 hz.lt
   exact Blk.ne_ h4 HL4.out (fun e => by subst e; rcases hi with h | h | h <;> exact absurd h (by decide)) rfl
  refine ⟨rp', dn', .slice A' T'.pairs.length c', most', hLW, Blk.only ht4 o45 (fun e => hlt e.symm), hv, HN1.out, ?_, Blk.only hd4 o45 (fun e => hlx e.symm), hm1, hm2, ?_⟩
  . exact (HR3.out.below HB4.out).only o45 (fun z cs hz e => by
   have e' : z = l := e
   subst e'
   exact Blk.ne_ hz HL4.out (by decide) rfl)
  . have o1 : Only (fun y => y = l \/ y = t \/ y = x) w w1 := HO1.out.mono fun y _ hy => .inr hy
    exact (o1.below b14).trans (o45.mono fun y _ hy => .inl hy)
 have HFIN := zaa hfin
 clear hfin
 by_cases hm : most < T'.pairs.length
 . have n1 : (most : Int) < (T'.pairs.length : Int) := by omega
   go_wp2
   go_ret
   exact ⟨rfl, HFIN.out _ T'.pairs.length ((((Only.set1 _ _ _ _).set2 _ _).set2 _ _).drew) ((((HL5.out.set_ 5 _).set_ 4 _).set_ 7 _).drew) (Nat.le_refl _) hP2⟩
 . have n1 : ¬ (most : Int) < (T'.pairs.length : Int) := by omega
   go_wp2
   go_ret
   exact ⟨rfl, HFIN.out _ most (((Only.set1 _ _ _ _).set2 _ _).drew) (((HL5.out.set_ 4 _).set_ 7 _).drew) (by omega) hmost⟩
set_option maxHeartbeats 4000000 in
theorem znx (k v : Str) (T' : Tree) (hl : LdAt w p s) (hpoi : s.poi = false) (hdev : DkAt w s.db bv cv m) (hτ : TxOk w x B N τ) (hD : DbAt w x S) (hN : N <= 16384) (hwr : τ.wr = true) (hdo : τ.done = false) (hk : k.size <= 9223372036854775807) (_hv : v.size <= 9223372036854775807)
   (hc : chgN true false k ⟨#[]⟩ = 0) (hP : T'.pairs = zd4 k τ.T.pairs) (hP2 : T'.pairs.length <= 140)
   (hput : Calls Tryz.prog 23 #[pkv τ.t, .string k] w (zrd w x τ.t S T' τ.st)) :
   Calls Tryz.prog 184 #[pkv p, pkv τ.l, .string k, .string v, .bool true] w fun e w' => e = .returned (.bool true) /\ zjq w w' x S τ T' := by
 have hpx : p ≠ x := Blk.ne_ hl hD (by decide)
 have hpt : p ≠ τ.t := Blk.ne_ hl hτ.tx (by decide)
 have hlx : τ.l ≠ x := Blk.ne_ hτ.law hD (by decide)
 have hlt : τ.l ≠ τ.t := Blk.ne_ hτ.law hτ.tx (by decide)
 have hpl : p ≠ τ.l := Blk.ne_ hl hτ.law (by decide)
 have hlen := hτ.len
 have hst := hτ.st
 have hmost := hτ.most
 have hll : τ.l < w.heap.size := hτ.law.lt
 have hpll : p < w.heap.size := hl.lt
 obtain ⟨l, t, wr, done, st, most, T, rp, dn, lv, csv, cs⟩ := τ
 obtain ⟨db, n, may, emp, were, wild, bit, xv, cc, commits, poi, ts, lists, want⟩ := s
 simp only at hpoi hdev hlen hlx hlt hpt hpl hput hwr hdo hst hmost hP hll
 subst hpoi hwr hdo
 have HT := zaa (zbc db bv cv m w hdev)
 obtain ⟨t0, _⟩ := zbm hτ.law
 have k0 := (zar hl).1
 have hcell : ∀ W W2, Only (fun y => y = t \/ y = x) w W -> Below W.heap.size W W2 -> zeg W2 ⟨l, t, true, false, st, most, T, rp, dn, lv, csv, cs⟩ /\ W2.cell? ⟨p, 10, none⟩ = some (.bool false) /\ RRow W2 lv T.pairs := fun W W2 ho hb => by
  have h1 := (Blk.only hτ.law ho (fun e => by rcases e with e | e; exact hlt e; exact hlx e))
  have h2 := Blk.only hl ho (fun e => by rcases e with e | e; exact hpt e; exact hpx e)
  have h2 := Blk.below h2 hb h2.lt
  exact ⟨Blk.below h1 hb h1.lt, zab h2 10 rfl, (hτ.row.only ho (fun z cs hz e => by
   rcases e with e | e
   . subst e; exact Blk.ne_ hz hτ.tx (by decide) rfl
   . subst e; exact Blk.ne_ hz hD (by decide) rfl)).below hb⟩
 have HCH := zaa (fun W => zgq lv true false st most 0 st k ⟨#[]⟩ W (by omega) (by decide))
 rw [hc] at HCH
 have HW := zaa (fun W (h : RRow W lv T.pairs) => zir lv T.pairs k ⟨#[]⟩ W h (by omega))
 have HLS := zaa (fun W (h : RRow W lv T.pairs) => zst lv T.pairs k W h (by omega))
 rw [<- hP] at HLS
 have HC := zaa hcell
 have e1 : IntKind.i64.wrap (st + 1) = st + 1 := by rw [IntKind.wrap_i64]; omega
 have HPUT := zaa hput
 unfold pkv at *
 clear hτ hl hD hcell hdev hc hput hP
 go_enter Tryz.func184, Tryz.ntmps184
 go_upto_region 15 with (first
  | (go_at_call 178; refine HT.out.mono ?_; rintro e w' ⟨rfl, rfl⟩)
  | (go_at_call 23; go_loud (
     refine HPUT.out.mono ?_; rintro e w1 ⟨rfl, hd1, ⟨rp', dn', hT1, hV1, hN1⟩, ho1⟩
     obtain ⟨hL1, p10, hr1⟩ := HC.out w1 w1 ho1 (Below.refl _ _)
     obtain ⟨_, l1, l2, l3, l4, l5, l6, l7, _⟩ := zbm hL1
     have HD1 := zaa hd1
     have HO1 := zaa ho1
     have HT1 := zaa hT1
     have HV1 := zaa hV1
     have HN1 := zaa hN1
     clear hd1 ho1 hT1 hV1 hN1 hr1 hL1))
  | (go_at_call 30; refine (zcq _).mono ?_; rintro e w' ⟨rfl, rfl⟩)
  | (go_at_call 179; refine (za6 _ _).mono ?_; rintro e w' ⟨rfl, rfl⟩)
  | (go_at_call 203; go_loud (
     refine (HCH.out _).mono ?_; rintro e w2 ⟨rfl, hb2⟩
     clear p10 l1 l2 l3 l4 l5 l6 l7
     obtain ⟨hL2, p10, hr2⟩ := HC.out w1 w2 HO1.out hb2
     obtain ⟨_, l1, _⟩ := zbm hL2
     have HR2 := zaa (HW.out w2 hr2)
     have HB2 := zaa hb2
     clear hb2 hr2 hL2))
  | (go_at_call 204; go_loud (
     refine HR2.out.mono ?_; rintro e w3 ⟨lv', rfl, hr3, hb3⟩
     obtain ⟨A', c', hA⟩ := hr3.form
     subst hA
     have hb := HB2.out.trans (hb3.mono HB2.out.size)
     obtain ⟨hL3, p10', _⟩ := HC.out w1 w3 HO1.out hb
     have HR3 := zaa hr3
     have HB3 := zaa hb
     have HL3 := zaa hL3
     clear hr3 hb3 hb hL3 l1 p10)))
 obtain ⟨W4, hW4⟩ : ∃ W4, W4 = w3.alloc (.cells #[.slice A' (zcp k ⟨#[]⟩ T.pairs).length c'] 241) := ⟨_, rfl⟩
 rw [<- hW4]
 have hb4 : Below w3.heap.size w3 W4 := by rw [hW4]; exact (Below.refl _ _).alloc (Nat.le_refl _) _
 have hbx : Blk W4 w3.heap.size 241 #[.slice A' (zcp k ⟨#[]⟩ T.pairs).length c'] := by rw [hW4]; exact Blk.new _ _ _
 have hb14 := HB3.out.trans (hb4.mono HB3.out.size)
 obtain ⟨hL4, p10'', hr4⟩ := HC.out w1 W4 HO1.out hb14
 have l1 := zab hL4 1 rfl
 have HLS4 := zaa (HLS.out W4 hr4)
 have hlz : l < w3.heap.size := Blk.lt HL3.out
 have HB4 := zaa hb4
 have HB14 := zaa hb14
 have HBX := zaa hbx
 have HL4 := zaa hL4
 have HW4 := zaa hW4
 clear hb4 hbx hL4 hW4 p10' p10'' hr4 hb14
 go_upto_region 20 with (go_at_call 205; go_loud (
  refine HLS4.out.mono ?_; rintro e w5 ⟨lv5, rfl, hr5, hb5⟩
  obtain ⟨A5, c5, hA5⟩ := hr5.form
  subst hA5
  have hL5' := Blk.below HL4.out hb5 (Blk.lt HL4.out)
  have hbx5' := HBX.out.below hb5 HBX.out.lt
  obtain ⟨bz, hbz⟩ : ∃ bz, bz = w3.heap.size := ⟨_, rfl⟩
  have hne : ¬ bz = l := by omega
  have hne' : ¬ l = bz := fun e => hne e.symm
  rw [<- hbz] at hbx5'
  try rw [<- hbz]
  have bx := zab hbx5' 0 rfl
  have zb : w5.frozen? ⟨bz, 0, none⟩ = false := hbx5'.frozen 0
  have m1 := zab hL5' 1 rfl
  have z1 : w5.frozen? ⟨l, 1, none⟩ = false := Blk.frozen hL5' 1
  have HR5 := zaa hr5
  have HB5 := zaa hb5
  have HL5' := zaa hL5'
  have HBX5' := zaa hbx5'
  have HBZ := zaa hbz
  clear hr5 hb5 hL5' hbx5' l1 hbz))
 obtain ⟨W5, hW5⟩ : ∃ W5, W5 = (w5.setCell ⟨bz, 0, none⟩ (.slice A5 T'.pairs.length c5)).setCell ⟨l, 1, none⟩ (.slice A5 T'.pairs.length c5) := ⟨_, rfl⟩
 rw [<- hW5]
 have hoa : Only (· = bz) w5 (w5.setCell ⟨bz, 0, none⟩ (.slice A5 T'.pairs.length c5)) := Only.set1 _ _ _ _
 have ho5 : Only (fun y => y = l \/ y = bz) w5 W5 := by rw [hW5]; exact (hoa.mono fun y _ hy => .inr hy).trans ((Only.set1 _ _ _ _).mono fun y _ hy => .inl hy)
 have hL5 := Blk.set_ (Blk.only HL5'.out hoa hne') 1 (.slice A5 T'.pairs.length c5)
 rw [<- hW5] at hL5
 have hbx5 : Blk W5 bz 241 #[.slice A5 T'.pairs.length c5] := by
  rw [hW5]
  exact (HBX5'.out.set_ 0 (.slice A5 T'.pairs.length c5)).only (Only.set1 _ _ _ _) hne
 have bx5 := zab hbx5 0 rfl
 have l4 := zab hL5 4 rfl
 have l5 := zab hL5 5 rfl
 have l7 := zab hL5 7 rfl
 have z4 : W5.frozen? ⟨l, 4, none⟩ = false := Blk.frozen hL5 4
 have z5 : W5.frozen? ⟨l, 5, none⟩ = false := Blk.frozen hL5 5
 have z7 : W5.frozen? ⟨l, 7, none⟩ = false := Blk.frozen hL5 7
 have HL5 := zaa hL5
 have HO5 := zaa ho5
 clear hL5 ho5 hoa hbx5 hW5 bx zb z1 m1
 go_region_held3 (fun w' => w'.cell? ⟨bz, 0, none⟩ = some (.slice A5 T'.pairs.length c5) /\ w'.cell? ⟨l, 5, none⟩ = some (.int .i64 most)) (first | go_keep | exact ⟨bx5, l5⟩) (fail)
 have hfin : ∀ W most', Only (· = l) W5 W -> Blk W l 273 #[.pointer (some ⟨t, 0, none⟩), .slice A5 T'.pairs.length c5, .bool true, .bool false, .int .i64 (st + 1), .int .i64 (most' : Nat), .int .i64 0, .int .i64 (st + 1), csv] -> T'.pairs.length <= most' -> most' <= 140 -> zjq w W x S ⟨l, t, true, false, st, most, T, rp, dn, lv, csv, cs⟩ T' := by
  intro W most' hoW hLW hm1 hm2
  have hz3 := HB3.out.size
  have hz4 := HB4.out.size
  have hzb := HBZ.out
  have b15 : Below w1.heap.size w1 w5 := HB14.out.trans (HB5.out.mono HB14.out.size)
  have o5W : Only (fun y => y = l \/ y = bz) w5 W := HO5.out.trans (hoW.mono fun y _ hy => .inl hy)
  have o1W : Only (· = l) w1 W := Only.trans' (Only.of_below b15) o5W fun y hy e => by rcases e with e | e; exact e; omega
  have hl1 : l < w1.heap.size := Nat.lt_of_lt_of_le hll HO1.out.size
  have hL1 : ∀ z X cs, Blk w1 z X cs -> X ≠ 273 -> ¬ z = l := fun z X cs hz hX e => by
   subst e
   have h5 := Blk.below hz b15 hz.lt
   exact Blk.ne_ h5 HL5'.out hX rfl
  have hv : TreeV (fun z => z < W.heap.size) W T' rp' dn' :=
   (HV1.out.only o1W fun z X cs _ hz hi => hL1 z X cs hz (fun e => by subst e; rcases hi with h | h | h <;> exact absurd h (by decide))).imp id fun ⟨a, n, b, e1, e2, e3⟩ => ⟨a, n, b, e1, e2, e3.more fun _ hz => Nat.lt_of_lt_of_le hz o1W.size⟩
  refine ⟨rp', dn', .slice A5 T'.pairs.length c5, most', hLW, Blk.only HT1.out o1W (fun e => hlt e.symm), hv, HN1.out, ?_, Blk.only HD1.out o1W (fun e => hlx e.symm), hm1, hm2, ?_⟩
  . exact HR5.out.only o5W (fun z cs hz e => by
   rcases e with e | e
   . subst e; exact Blk.ne_ hz HL5'.out (by decide) rfl
   . subst e; exact Blk.ne_ hz HBX5'.out (by decide) rfl)
  . have o1 : Only (fun y => y = l \/ y = t \/ y = x) w w1 := HO1.out.mono fun y _ hy => .inr hy
    exact o1.trans (o1W.mono fun y _ hy => .inl hy)
 have HFIN := zaa hfin
 clear hfin
 by_cases hm : most < T'.pairs.length
 . have n1 : (most : Int) < (T'.pairs.length : Int) := by omega
   go_wp2
   go_ret
   exact ⟨rfl, HFIN.out _ T'.pairs.length ((((Only.set1 _ _ _ _).set2 _ _).set2 _ _).drew) ((((HL5.out.set_ 5 _).set_ 4 _).set_ 7 _).drew) (Nat.le_refl _) hP2⟩
 . have n1 : ¬ (most : Int) < (T'.pairs.length : Int) := by omega
   go_wp2
   go_ret
   exact ⟨rfl, HFIN.out _ most (((Only.set1 _ _ _ _).set2 _ _).drew) (((HL5.out.set_ 4 _).set_ 7 _).drew) (by omega) hmost⟩
end
end Go.Proofs.YtemondlgcmpbbaaGreatDoor
