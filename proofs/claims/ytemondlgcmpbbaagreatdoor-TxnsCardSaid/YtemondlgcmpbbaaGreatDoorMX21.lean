/- Pt De Tg Sn: merged. -/
import Derived.Test.YtemondlgcmpbbaaGreatDoorMX20
import Derived.Deep.DeepCutAuto
import Derived.Test.YtemondlgcmpbbaaGreatDoorMX09
namespace Go.Proofs.YtemondlgcmpbbaaGreatDoor
open Go.RowKit
set_option maxRecDepth 100000
theorem SlC.row_blk {w : World} {T : TypeId} {A : Option Addr} {n c : Nat} {xs : List Value} (h : SlC w T (.slice A n c) n xs) (h0 : 0 < n) : ∃ (g : Addr) (cur : Array Value), A = some g /\ Blk w g.block T cur := by
 obtain ⟨hl, A', c', hv, h1, h2, h3, hp⟩ := h
 injection hv with e1 _ e3
 subst e1
 obtain ⟨g, o, cur, hA, hg, hx⟩ := hp h0
 exact ⟨_, cur, hA, hg⟩
def zjm (ok : Nat -> Prop) (w : World) (t : Tree) (ds : List Nat) : Ending -> World -> Prop := fun e w' =>
 ∃ rp ds', e = .returned (za0 rp t.keys) /\ TreeV (up ok w.heap.size) w' t rp ds' /\ ds'.Nodup /\ (∀ x ∈ ds', x ∈ ds \/ w.heap.size <= x) /\ Below w.heap.size w w'
structure zvq (ok : Nat -> Prop) (w : World) (t' : Tree) (key v : Str) (ds : List Nat) (rp s9 : Value) (wx : World) (h : Nat) (n : Tr h) (b1 : Nat) (ds1 : List Nat) : Prop where
 at_ : s9 = P b1
 put : Calls Tryz.prog 84 #[P b1, .agg #[.string key, .string v]] wx (zd3 (up ok w.heap.size) wx h (Tr.put h n key v) ds1)
 ok : zd2 h (Tr.put h n key v)
 root : t'.root = some (zc2 h (Tr.put h n key v))
 sub : ∀ x ∈ ds1, x ∈ ds \/ w.heap.size <= x
 box : Blk wx w.heap.size 88 #[rp, .int .i64 t'.keys]
 res : Blk wx (w.heap.size + 1) 88 #[.pointer none, .int .i64 0]
 below : Below w.heap.size w wx
structure zvc (ok : Nat -> Prop) (w : World) (t' : Tree) (ds : List Nat) (rp s9 : Value) (wx : World) (h : Nat) (n : Tr h) (b2 : Nat) (ds2 : List Nat) : Prop where
 at_ : s9 = P b2
 rep : FRep (up ok w.heap.size) wx h n b2 ds2
 root : t'.root = some ⟨h, n⟩
 nd : ds2.Nodup
 sub : ∀ x ∈ ds2, x ∈ ds \/ w.heap.size <= x
 box : Blk wx w.heap.size 88 #[rp, .int .i64 t'.keys]
 res : Blk wx (w.heap.size + 1) 88 #[.pointer none, .int .i64 0]
 below : Below w.heap.size w wx
theorem zk9 {ok : Nat -> Prop} {w : World} (hok : ok w.heap.size) : FRep ok (w.alloc (.cells #[.int .i64 0, .int .u32 0, .bool false, .slice none 0 0, .slice none 0 0] 137)) 0 zbk w.heap.size [] :=
 ⟨none, 0, none, 0, ⟨Blk.new _ _ _, SlC.of_own (zdr _ 0 _), SlC.of_own (zdr _ 0 _)⟩, hok, rowOk.zero _ _, rfl⟩
theorem ziq {key v : Str} (h1 : zck key) (h2 : zdi v) : zd2 0 (Tr.put 0 zbk key v) := by
 obtain ⟨p1, p2⟩ := zeq 0 zbz none zbk key v zfg (za5 key) (zcj key) h1 h2
 have hp : Tr.pairs 0 (Tr.put 0 zbk key v) = [(key, v)] := by rw [p2]; simp [zb7, place, there, zbk, Tr.pairs]
 exact zef p1 (by show 1 <= (Tr.pairs 0 (Tr.put 0 zbk key v)).length; rw [hp]; simp) (by rw [hp]; simp)
theorem FRep.typed {ok : Nat -> Prop} {w : World} {h : Nat} {t : Tr h} {b : Nat} {ds : List Nat} {x y : Nat} {cx cy : Array Value} (hf : FRep ok w h t b ds) (hx : Blk w x 88 cx) (hy : Blk w y 88 cy) : FRep (fun z => ok z /\ z < w.heap.size /\ z ≠ x /\ z ≠ y) w h t b ds := by
 induction h generalizing b ds with
 | zero =>
   obtain ⟨A1, c1, A2, c2, hn, hb, hr, hd⟩ := hf
   refine ⟨A1, c1, A2, c2, hn, ⟨hb, Blk.lt hn.node, Blk.ne_ hn.node hx (by decide), Blk.ne_ hn.node hy (by decide)⟩, fun h0 a ha => ?_, hd⟩
   obtain ⟨g, cur, e, hg⟩ := hn.ps.row_blk h0
   rw [ha] at e
   injection e with e
   exact ⟨hr h0 a ha, hn.ps.row_lt h0 a ha, Blk.ne_ (e ▸ hg) hx (by decide), Blk.ne_ (e ▸ hg) hy (by decide)⟩
 | succ h ih =>
   obtain ⟨A1, c1, A2, c2, bs, dss, hn, hb, hr, hk, hd⟩ := hf
   refine ⟨A1, c1, A2, c2, bs, dss, hn, ⟨hb, Blk.lt hn.node, Blk.ne_ hn.node hx (by decide), Blk.ne_ hn.node hy (by decide)⟩, fun h0 a ha => ?_, hk.mono fun _ _ _ hk => ih hk, hd⟩
   obtain ⟨g, cur, e, hg⟩ := hn.ks.row_blk h0
   rw [ha] at e
   injection e with e
   exact ⟨hr h0 a ha, hn.ks.row_lt h0 a ha, Blk.ne_ (e ▸ hg) hx (by decide), Blk.ne_ (e ▸ hg) hy (by decide)⟩
set_option maxHeartbeats 1600000 in
theorem zsr {ok : Nat -> Prop} (t : Tree) (rp : Value) (ds : List Nat) (key v : Str) (w : World) (hv : TreeV ok w t rp ds) (hnd : ds.Nodup) (ht : TR t) (hp : t.pairs.length <= 150) (h1 : zck key) (h2 : zdi v) :
   Calls Tryz.prog 58 #[za0 rp t.keys, .string key, .string v] w (zjm ok w (t.put key v) ds) := by
 have hkeys : t.keys <= 150 := by rw [ht.tw.keys_]; exact hp
 have hb0 : Below w.heap.size w ((w.alloc (.cells #[rp, .int .i64 t.keys] 88)).alloc (.cells #[.pointer none, .int .i64 0] 88)) := ((Below.refl _ _).alloc (Nat.le_refl _) _).alloc (by simp) _
 obtain ⟨W0, hW0⟩ : ∃ W0, W0 = (w.alloc (.cells #[rp, .int .i64 t.keys] 88)).alloc (.cells #[.pointer none, .int .i64 0] 88) := ⟨_, rfl⟩
 have hx : Blk W0 w.heap.size 88 #[rp, .int .i64 t.keys] := by rw [hW0]; exact (Blk.new _ _ _).alloc _
 have hr : Blk W0 (w.heap.size + 1) 88 #[.pointer none, .int .i64 0] := by rw [hW0]; exact Blk.new2 _ _ _ _
 rw [<- hW0] at hb0
 have hv0 := hv.below hb0 (ok' := ok) (fun _ h => h)
 have hds0 := hv.ds
 have GET := zaa (zfb t rp ds key W0 hv0 ht hp)
 obtain ⟨t', ht'⟩ : ∃ t', t' = t.put key v := ⟨_, rfl⟩
 have hkp : t'.keys = if (t.get key).isSome then t.keys else t.keys + 1 := by rw [ht']; rfl
 rw [<- ht']
 have HT' := zaa ht'
 clear ht'
 obtain ⟨there, hth⟩ : ∃ th, th = (t.get key).isSome := ⟨_, rfl⟩
 rw [<- hth] at hkp
 have HKP := zaa hkp
 have HTH := zaa hth
 have HV := zaa hv
 have HND := zaa hnd
 have HT := zaa ht
 have HP := zaa hp
 have HX := zaa hx
 have HR := zaa hr
 have HB := zaa hb0
 have HW0 := zaa hW0
 have HDS := zaa hds0
 have x0 : W0.cell? ⟨w.heap.size, 0, none⟩ = some rp := by rw [hx.cell]; rfl
 have x1 : W0.cell? ⟨w.heap.size, 1, none⟩ = some (.int .i64 t.keys) := by rw [hx.cell]; rfl
 have k0 : IntKind.i64.wrap ((t.keys : Int) + 1) = (t.keys : Int) + 1 := by rw [IntKind.wrap_i64]; omega
 clear hv hnd ht hp hx hr hb0 hv0 hkp hth hW0 hds0
 unfold za0 at GET ⊢
 go_enter Tryz.func58, Tryz.ntmps58
 go_upto_if 19 with (first
  | (go_at_call 56; go_loud (
     rw [<- HW0.out]
     refine GET.out.mono ?_; rintro e w1 ⟨rfl, hb1⟩
     unfold zgp
     rw [<- HTH.out]
     have hx1 := HX.out.below hb1 HX.out.lt
     have hr1 := HR.out.below hb1 HR.out.lt
     have y1 : w1.cell? ⟨w.heap.size, 1, none⟩ = some (.int .i64 t.keys) := by rw [hx1.cell]; rfl
     have z1 : w1.frozen? ⟨w.heap.size, 1, none⟩ = false := hx1.frozen 1
     have HX1 := zaa hx1
     have HR1 := zaa hr1
     have HB1 := zaa (HB.out.trans (hb1.mono HB.out.size))
     clear hx1 hr1 hb1)))
 go_cut [6] (fun s6 wx => s6 = .pointer (some ⟨w.heap.size + 1, 0, none⟩) /\ Blk wx w.heap.size 88 #[rp, .int .i64 t'.keys] /\ Blk wx (w.heap.size + 1) 88 #[.pointer none, .int .i64 0] /\ Below w.heap.size w wx)
 case first =>
  cases there with
  | true =>
    go_wp2
    go_meet
    have e := HKP.out
    simp only [if_true] at e
    rw [e]
    exact ⟨rfl, HX1.out, HR1.out, HB1.out⟩
  | false =>
    go_wp2
    go_meet
    have e : t'.keys = t.keys + 1 := HKP.out
    rw [e]
    refine ⟨rfl, HX1.out.set_ 1 (.int .i64 ((t.keys + 1 : Nat) : Int)), HR1.out.far (by show w.heap.size + 1 ≠ w.heap.size; omega) _, HB1.out.setCell (by show w.heap.size <= w.heap.size; omega) _⟩
 case rest =>
 obtain ⟨rfl, hxc, hrc, hbc⟩ := hcut
 have u0 : wc.cell? ⟨w.heap.size, 0, none⟩ = some rp := by rw [hxc.cell]; rfl
 have HXC := zaa hxc
 have HRC := zaa hrc
 have HBC := zaa hbc
 clear hxc hrc hbc
 go_upto_region 5 with fail
 go_cut [9, 27] (fun s9 s27 wx => s9 = rp /\ s27 = .bool t.root.isNone /\ wx = wc)
 case first =>
  rcases HV.out with ⟨hr, rfl, rfl⟩ | ⟨h, n, b, hr, rfl, hf⟩
  . go_wp2
    go_meet
    rw [hr]; exact ⟨rfl, rfl, rfl⟩
  . unfold P at *
    go_wp2
    go_meet
    rw [hr]; exact ⟨rfl, rfl, rfl⟩
 case rest =>
 obtain ⟨e9, rfl, rfl⟩ := hcut
 rw [e9]
 clear e9
 go_upto_if 27 with fail
 go_cut [9] (fun s9 wx => ∃ h n b1 ds1, zvq ok w t' key v ds rp s9 wx h n b1 ds1)
 case first =>
  rcases HV.out with ⟨hr, rfl, rfl⟩ | ⟨h, n, b, hr, rfl, hf⟩
  . rw [hr]
    go_wp2
    go_meet
    have hl : Below w.heap.size w (wc.alloc (.cells #[.int .i64 0, .int .u32 0, .bool false, .slice none 0 0, .slice none 0 0] 137)) := HBC.out.alloc HBC.out.size _
    have hroot : t'.root = some (zc2 0 (Tr.put 0 zbk key v)) := by rw [HT'.out]; unfold Tree.put; rw [hr]
    refine ⟨0, zbk, wc.heap.size, [], rfl, zl8 zbk key v _ _ _ (zk9 (.inr HBC.out.size)) List.Pairwise.nil (by show 0 <= 400; omega), ziq h1 h2, hroot, (fun x hx => by cases hx), HXC.out.alloc _, HRC.out.alloc _, hl⟩
  . rw [hr]
    unfold P at *
    go_wp2
    go_meet
    have hwf := HT.out.tw.some_ h n hr
    have htop := HT.out.top h n hr
    have hpp : t.pairs = Tr.pairs h n := by unfold Tree.pairs; rw [hr]
    have hpl : (Tr.pairs h n).length <= 150 := by rw [<- hpp]; exact HP.out
    obtain ⟨p1, p2⟩ := zeq h zbz none n key v hwf (za5 key) (zcj key) h1 h2
    have hlp := (zgl key v (Tr.pairs h n) (zc3 h _ _ n hwf).1).1
    have hroot : t'.root = some (zc2 h (Tr.put h n key v)) := by rw [HT'.out]; unfold Tree.put; rw [hr]
    refine ⟨h, n, b, ds, rfl, zoi h _ zbz none n key v b ds wc hwf htop (za5 key) (zcj key) h1 h2 hpl ?_ HND.out, zef p1 ((zja h zbz none n key v hwf (za5 key) (zcj key) h1 h2).1 htop) (by rw [p2, hlp]; split <;> omega), hroot, (fun x hx => .inl hx), HXC.out, HRC.out, HBC.out⟩
    exact hf.below HBC.out (fun _ h => .inl h)
 case rest =>
 obtain ⟨h, n, b1, ds1, hin⟩ := hcut
 obtain ⟨rfl, hput, hkok, hroot, hsub, hxc, hrc, hbc⟩ := hin
 obtain ⟨n', hn'⟩ : ∃ n', n' = Tr.put h n key v := ⟨_, rfl⟩
 rw [<- hn'] at hput hkok hroot
 have HPUT := zaa hput
 have HXD := zaa hxc
 have HRD := zaa hrc
 have HBD := zaa hbc
 have HROOT := zaa hroot
 have HSUB := zaa hsub
 have hws : w.heap.size <= wc.heap.size := hbc.size
 have hup : ∀ B, w.heap.size <= B -> ∀ x, up (up ok w.heap.size) B x -> up ok w.heap.size x := by
  rintro B hB x (hx | hx)
  . exact hx
  . exact .inr (by omega)
 have HUP := zaa hup
 have HKOK := zaa hkok
 clear hput hkok hxc hrc hbc hroot hsub hn' hup u0 x0 x1 y1 z1
 go_upto_if 36 with (first
  | (go_at_call 84; go_loud (
     refine HPUT.out.mono ?_; rintro e w2 ⟨b2, d2, rfl, hf2, hn2, hs2, hbb2, hbl2⟩
     have FULL := zaa (zl1 h n' b2 (d2 ++ [b2]) w2 hf2.rep HKOK.out.2.1 (Nat.le_trans HKOK.out.2.2 (by omega)) (Nat.le_trans HKOK.out.1.size (by have := HKOK.out.2.2; omega)))
     have HF2 := zaa hf2
     have HBL2 := zaa hbl2
     have hz2 := hbl2.size
     clear hf2 hbl2))
  | (go_at_call 85; refine FULL.out.mono ?_; rintro e w3 ⟨rfl, hb3⟩))
 have hz3 := hb3.size
 go_cut [9] (fun s9 wx => ∃ h n b2 ds2, zvc ok w t' ds rp s9 wx h n b2 ds2)
 case first =>
  have hbw3 : Below w.heap.size w w3 := HBD.out.trans ((HBL2.out.trans (hb3.mono hz2)).mono hws)
  have hx3 := HXD.out.below (HBL2.out.trans (hb3.mono hz2)) HXD.out.lt
  have hr3 := HRD.out.below (HBL2.out.trans (hb3.mono hz2)) HRD.out.lt
  have hf3 : FRep (up ok w.heap.size) w3 h n' b2 (d2 ++ [b2]) := HF2.out.below hb3 (HUP.out _ hws)
  have hsub3 : ∀ x ∈ d2 ++ [b2], x ∈ ds \/ w.heap.size <= x := by
   intro x hx
   rcases List.mem_append.1 hx with hx | hx
   . rcases hs2 x hx with k | k
     . exact HSUB.out x k
     . exact .inr (by omega)
   . rw [List.mem_singleton.1 hx]; exact .inr (by omega)
  cases hfl : Tr.full h n' with
  | false =>
    have HX3 := zaa hx3
    have HR3 := zaa hr3
    have HF3 := zaa hf3
    clear hx3 hr3 hf3
    go_wp2
    go_meet
    refine ⟨h, n', b2, d2 ++ [b2], rfl, HF3.out, ?_, hn2, hsub3, HX3.out, HR3.out, hbw3⟩
    rw [HROOT.out]; unfold zc2; rw [hfl]; rfl
  | true =>
    have SPLIT := zaa (zoh h n' b2 (d2 ++ [b2]) w3 hf3 (HKOK.out.1.full hfl) (Nat.le_trans HKOK.out.2.2 (by omega)) (Nat.le_trans HKOK.out.1.size (by have := HKOK.out.2.2; omega)))
    have HX3 := zaa hx3
    have HR3 := zaa hr3
    have HF3 := zaa hf3
    clear hx3 hr3 hf3
    go_wp2_with (go_at_call 86; go_loud (
     refine SPLIT.out.mono ?_
     rintro e w4 ⟨b3, b4, d3, d4, rfl, x1, x2, hdd, y1, y2, y3, hb4⟩))
    go_meet
    have hz4 := hb4.size
    have hal : Below w4.heap.size w4 (((w4.alloc (.cells #[.string (Tr.split h n').2.1, P b4] 139)).alloc (.cells #[.string ⟨#[]⟩, P b3, .string (Tr.split h n').2.1, P b4] 139)).alloc (.cells #[.int .i64 0, .int .u32 0, .bool true, .slice none 0 0, .slice (some ⟨w4.heap.size + 1, 0, none⟩) 2 2] 137)) :=
     (((Below.refl w4.heap.size w4).alloc (Nat.le_refl _) _).alloc (by simp) _).alloc (by simp; omega) _
    have hgr : zc2 h n' = ⟨h + 1, (fresh [(ByteArray.empty, (Tr.split h n').1), ((Tr.split h n').2.1, (Tr.split h n').2.2)] : Nd (Tr h))⟩ := by unfold zc2; rw [hfl]; rfl
    have hnd0 : ([] ++ (d3 ++ d4 ++ zb2 (Tr.dirty h n') b2) :: ([] : List (List Nat))).flatten.Nodup := by simpa [hdd] using hn2
    have hds3 : ∀ x ∈ ([] ++ (d3 ++ d4 ++ zb2 (Tr.dirty h n') b2) :: ([] : List (List Nat))).flatten, x < w3.heap.size := fun x hx => (FRep.ds HF3.out x (by simpa [hdd] using hx)).2
    obtain ⟨nd1, nd2⟩ := zib hnd0 hds3 y1 y2 y3
    have y1b : b3 < w4.heap.size := (FRep.ds x1 b3 (by simp)).2
    have y2b : b4 < w4.heap.size := (FRep.ds x2 b4 (by simp)).2
    have nd3 : ∀ x ∈ ([d3 ++ [b3], d4 ++ [b4]] : List (List Nat)).flatten, x < w4.heap.size /\ (x ∈ ds \/ w.heap.size <= x) := by
     intro x hx
     rcases nd2 x hx with k | k | k
     . have := hds3 x k
       exact ⟨by omega, hsub3 x (by simpa [hdd] using k)⟩
     . exact ⟨by omega, .inr (by omega)⟩
     . exact ⟨by omega, .inr (by omega)⟩
    obtain ⟨W5, hW5⟩ : ∃ W5, W5 = (((w4.alloc (.cells #[.string (Tr.split h n').2.1, P b4] 139)).alloc (.cells #[.string ⟨#[]⟩, P b3, .string (Tr.split h n').2.1, P b4] 139)).alloc (.cells #[.int .i64 0, .int .u32 0, .bool true, .slice none 0 0, .slice (some ⟨w4.heap.size + 1, 0, none⟩) 2 2] 137)) := ⟨_, rfl⟩
    have hn5 : Blk W5 (w4.heap.size + 1 + 1) 137 #[.int .i64 0, .int .u32 0, .bool true, .slice none 0 0, .slice (some ⟨w4.heap.size + 1, 0, none⟩) 2 2] := by
     rw [hW5]
     have := Blk.new ((w4.alloc (.cells #[.string (Tr.split h n').2.1, P b4] 139)).alloc (.cells #[.string ⟨#[]⟩, P b3, .string (Tr.split h n').2.1, P b4] 139)) 137 #[.int .i64 0, .int .u32 0, .bool true, .slice none 0 0, .slice (some ⟨w4.heap.size + 1, 0, none⟩) 2 2]
     simpa using this
    have hk5 : Blk W5 (w4.heap.size + 1) 139 #[.string ⟨#[]⟩, P b3, .string (Tr.split h n').2.1, P b4] := by
     rw [hW5]
     exact (Blk.new2 _ _ _ _).alloc _
    have hal5 : Below w4.heap.size w4 W5 := by rw [hW5]; exact hal
    have hw5 : Below w.heap.size w W5 := (hbw3.trans (hb4.mono (by omega))).trans (hal5.mono (by omega))
    have hrow : W5.ownsRow w4.heap.size 139 2 (.slice (some ⟨w4.heap.size + 1, 0, none⟩) 2 2) 2 [.string ⟨#[]⟩, P b3, .string (Tr.split h n').2.1, P b4] :=
     ⟨rfl, .inr ⟨w4.heap.size + 1, 2, #[.string ⟨#[]⟩, P b3, .string (Tr.split h n').2.1, P b4], rfl, by omega, hk5, Nat.le_refl _, by unfold maxLen; omega, rfl, rfl⟩⟩
    have hkids : RepL (FRep (up ok w.heap.size) W5 h) [(ByteArray.empty, (Tr.split h n').1), ((Tr.split h n').2.1, (Tr.split h n').2.2)] [b3, b4] [d3 ++ [b3], d4 ++ [b4]] :=
     ⟨x1.below hal5 (HUP.out _ (by omega)), x2.below hal5 (HUP.out _ (by omega)), trivial⟩
    have hrep5 := FRep.mk_branch (ok := up ok w.heap.size) (base := w4.heap.size) (n := 2) (bs := [b3, b4]) (dss := [d3 ++ [b3], d4 ++ [b4]]) (es := [(ByteArray.empty, (Tr.split h n').1), ((Tr.split h n').2.1, (Tr.split h n').2.2)]) rfl hn5 (zdr _ _ _) hrow (by omega) (fun x hx _ => .inr (by omega)) hkids
    rw [<- hW5]
    refine ⟨h + 1, _, w4.heap.size + 1 + 1, _, rfl, hrep5, ?_, ?_, ?_, (HX3.out.below hb4 HX3.out.lt).below hal5 (Nat.lt_of_lt_of_le HX3.out.lt hz4), (HR3.out.below hb4 HR3.out.lt).below hal5 (Nat.lt_of_lt_of_le HR3.out.lt hz4), hw5⟩
    . rw [HROOT.out, hgr]
    . refine List.nodup_append.2 ⟨nd1, by simp, fun a ha x hx e => ?_⟩
      rw [List.mem_singleton.1 hx] at e
      have := (nd3 a ha).1
      omega
    . intro x hx
      rcases List.mem_append.1 hx with hx | hx
      . exact (nd3 x hx).2
      . rw [List.mem_singleton.1 hx]; exact .inr (by omega)
 case rest =>
 obtain ⟨h2, n2, b2, ds2, hout⟩ := hcut
 obtain ⟨rfl, hrep, hroot, hnd2, hsub2, hxc, hrc, hbc⟩ := hout
 have v0 : wc.frozen? ⟨w.heap.size, 0, none⟩ = false := hxc.frozen 0
 have v1 : wc.cell? ⟨w.heap.size, 0, none⟩ = some rp := by rw [hxc.cell]; rfl
 have v2 : wc.cell? ⟨w.heap.size, 1, none⟩ = some (.int .i64 t'.keys) := by rw [hxc.cell]; rfl
 have v3 : wc.frozen? ⟨w.heap.size + 1, 0, none⟩ = false := hrc.frozen 0
 have v4 : wc.frozen? ⟨w.heap.size + 1, 1, none⟩ = false := hrc.frozen 1
 have v5 : wc.cell? ⟨w.heap.size + 1, 0, none⟩ = some (.pointer none) := by rw [hrc.cell]; rfl
 have v6 : wc.cell? ⟨w.heap.size + 1, 1, none⟩ = some (.int .i64 0) := by rw [hrc.cell]; rfl
 have HREP := zaa hrep
 have HROOT2 := zaa hroot
 have HBE := zaa hbc
 have HXE := zaa hxc
 have HRE := zaa hrc
 clear hrep hroot hxc hrc hbc
 go_wp2
 have hwe := HBE.out.size
 obtain ⟨WE, hWE⟩ : ∃ WE, WE = ((wc.setCell ⟨w.heap.size, 0, none⟩ (.pointer (some ⟨b2, 0, none⟩))).setCell ⟨w.heap.size + 1, 0, none⟩ (.pointer (some ⟨b2, 0, none⟩))).setCell ⟨w.heap.size + 1, 1, none⟩ (.int .i64 t'.keys) := ⟨_, rfl⟩
 rw [<- hWE]
 have hrw : Blk WE (w.heap.size + 1) 88 #[P b2, .int .i64 t'.keys] := by
  rw [hWE]
  exact ((HRE.out.far (p := ⟨w.heap.size, 0, none⟩) (by show w.heap.size + 1 ≠ w.heap.size; omega) _).set_ 0 _).set_ 1 _
 have r0 : WE.cell? ⟨w.heap.size + 1, 0, none⟩ = some (P b2) := by rw [hrw.cell]; rfl
 have r1 : WE.cell? ⟨w.heap.size + 1, 1, none⟩ = some (.int .i64 t'.keys) := by rw [hrw.cell]; rfl
 have hnk : Agree (fun x => up ok w.heap.size x /\ x < wc.heap.size /\ x ≠ w.heap.size /\ x ≠ w.heap.size + 1) wc WE := by
  rw [hWE]
  exact ((Agree.setCell _ _ _ (fun h => h.2.2.1 rfl)).trans (Agree.setCell _ _ _ (fun h => h.2.2.2 rfl))).trans (Agree.setCell _ _ _ (fun h => h.2.2.2 rfl))
 have hrepE : FRep (up ok w.heap.size) WE h2 n2 b2 ds2 := (HREP.out.typed HXE.out HRE.out).move hnk (fun x hx => hx.1)
 have hbwE : Below w.heap.size w WE := by
  rw [hWE]
  exact ((HBE.out.setCell (p := ⟨w.heap.size, 0, none⟩) (by show w.heap.size <= w.heap.size; omega) _).setCell (p := ⟨w.heap.size + 1, 0, none⟩) (by show w.heap.size <= w.heap.size + 1; omega) _).setCell (p := ⟨w.heap.size + 1, 1, none⟩) (by show w.heap.size <= w.heap.size + 1; omega) _
 exact bodyPost_ret (v := za0 (P b2) t'.keys) (by unfold za0; simp [results, Tryz.results58, go_sem, r0, r1]) rfl ⟨P b2, ds2, rfl, .inr ⟨h2, n2, b2, HROOT2.out, rfl, hrepE⟩, hnd2, hsub2, hbwE⟩
structure zvd (ok : Nat -> Prop) (w : World) (x : (h : Nat) × Tr h) (keys : Nat) (ds : List Nat) (k : Nat) (n : Tr k) (b : Nat) (dk : List Nat) (wr : World) : Prop where
 rep : FRep (fun z => up ok w.heap.size z /\ z ≠ w.heap.size /\ z ≠ w.heap.size + 1) wr k n b dk
 same : shrink k n = x
 nd : dk.Nodup
 sub : ∀ x ∈ dk, x ∈ ds \/ w.heap.size <= x
 box : Blk wr w.heap.size 88 #[P b, .int .i64 keys]
 res : Blk wr (w.heap.size + 1) 88 #[.pointer none, .int .i64 0]
 below : Below w.heap.size w wr
theorem zns (n : Tr 0) : shrink 0 n = ⟨0, n⟩ := rfl
theorem zpk {h : Nat} {n : Tr (h + 1)} (hl : (Nd.es n).length ≠ 1) : shrink (h + 1) n = ⟨h + 1, n⟩ := by
 show (match Nd.es n with | [e] => shrink h e.2 | _ => ⟨h + 1, n⟩) = _
 split
 . rename_i e he
   rw [he] at hl
   simp at hl
 . rfl
set_option maxHeartbeats 1600000 in
theorem zmh {ok : Nat -> Prop} (t : Tree) (rp : Value) (ds : List Nat) (key : Str) (w : World) (hv : TreeV ok w t rp ds) (hnd : ds.Nodup) (ht : TR t) (hp : t.pairs.length <= 150) (hg : t.get key = none) :
   Calls Tryz.prog 55 #[za0 rp t.keys, .string key] w (zjm ok w t ds) := by
 obtain ⟨q, rfl⟩ : ∃ q, rp = .pointer q := by
  rcases hv with ⟨_, e, _⟩ | ⟨_, _, b, _, e, _⟩
  . exact ⟨_, e⟩
  . exact ⟨_, e⟩
 have hb0 : Below w.heap.size w ((w.alloc (.cells #[(.pointer q), .int .i64 t.keys] 88)).alloc (.cells #[.pointer none, .int .i64 0] 88)) := ((Below.refl _ _).alloc (Nat.le_refl _) _).alloc (by simp) _
 obtain ⟨W0, hW0⟩ : ∃ W0, W0 = (w.alloc (.cells #[(.pointer q), .int .i64 t.keys] 88)).alloc (.cells #[.pointer none, .int .i64 0] 88) := ⟨_, rfl⟩
 have hx : Blk W0 w.heap.size 88 #[(.pointer q), .int .i64 t.keys] := by rw [hW0]; exact (Blk.new _ _ _).alloc _
 have hr : Blk W0 (w.heap.size + 1) 88 #[.pointer none, .int .i64 0] := by rw [hW0]; exact Blk.new2 _ _ _ _
 rw [<- hW0] at hb0
 have hv0 := hv.below hb0 (ok' := ok) (fun _ h => h)
 have hsz : W0.heap.size = w.heap.size + 1 + 1 := by rw [hW0]; simp
 have GET := zaa (zfb t (.pointer q) ds key W0 hv0 ht hp)
 rw [hg] at GET
 have hds := hv.ds
 have HV := zaa (hv.below hb0 (ok' := fun x => ok x) (fun _ h => h))
 have HVW := zaa hv
 have HX := zaa hx
 have HR := zaa hr
 have HB := zaa hb0
 have HW0 := zaa hW0
 clear hv hx hr hb0 hv0 hW0 hds
 unfold za0 zgp at GET
 unfold za0
 go_enter Tryz.func55, Tryz.ntmps55
 go_wp2_with (first
  | (go_at_call 56; go_loud (
     rw [<- HW0.out]
     refine GET.out.mono ?_; rintro e w1 ⟨rfl, hb1⟩
     have hx1 := HX.out.below hb1 HX.out.lt
     have hr1 := HR.out.below hb1 HR.out.lt
     have y0 : w1.cell? ⟨w.heap.size, 0, none⟩ = some (.pointer q) := by rw [hx1.cell]; rfl
     have y1 : w1.cell? ⟨w.heap.size, 1, none⟩ = some (.int .i64 t.keys) := by rw [hx1.cell]; rfl
     have v3 : w1.frozen? ⟨w.heap.size + 1, 0, none⟩ = false := hr1.frozen 0
     have v4 : w1.frozen? ⟨w.heap.size + 1, 1, none⟩ = false := hr1.frozen 1
     have v5 : w1.cell? ⟨w.heap.size + 1, 0, none⟩ = some (.pointer none) := by rw [hr1.cell]; rfl
     have v6 : w1.cell? ⟨w.heap.size + 1, 1, none⟩ = some (.int .i64 0) := by rw [hr1.cell]; rfl
     have HR1 := zaa hr1
     have HB1 := zaa (HB.out.trans (hb1.mono HB.out.size))
     clear hx1 hr1 hb1)))
 have hb1s := HB1.out.size
 obtain ⟨WE, hWE⟩ : ∃ WE, WE = (w1.setCell ⟨w.heap.size + 1, 0, none⟩ (.pointer q)).setCell ⟨w.heap.size + 1, 1, none⟩ (.int .i64 t.keys) := ⟨_, rfl⟩
 rw [<- hWE]
 have hrw : Blk WE (w.heap.size + 1) 88 #[(.pointer q), .int .i64 t.keys] := by
  rw [hWE]
  exact (HR1.out.set_ 0 _).set_ 1 _
 have r0 : WE.cell? ⟨w.heap.size + 1, 0, none⟩ = some (.pointer q) := by rw [hrw.cell]; rfl
 have r1 : WE.cell? ⟨w.heap.size + 1, 1, none⟩ = some (.int .i64 t.keys) := by rw [hrw.cell]; rfl
 have hbwE : Below w.heap.size w WE := by
  rw [hWE]
  exact (HB1.out.setCell (p := ⟨w.heap.size + 1, 0, none⟩) (by show w.heap.size <= w.heap.size + 1; omega) _).setCell (p := ⟨w.heap.size + 1, 1, none⟩) (by show w.heap.size <= w.heap.size + 1; omega) _
 exact bodyPost_ret (v := za0 (.pointer q) t.keys) (by unfold za0; simp [results, Tryz.results55, go_sem, r0, r1]) rfl ⟨(.pointer q), ds, rfl, HVW.out.below hbwE zpe, hnd, (fun x hx => .inl hx), hbwE⟩
set_option maxHeartbeats 3200000 in
theorem zmi {ok : Nat -> Prop} (t : Tree) (h b : Nat) (n : Tr h) (ds : List Nat) (key : Str) (w : World) (hroot : t.root = some ⟨h, n⟩) (hf : FRep ok w h n b ds) (hnd : ds.Nodup) (ht : TR t) (hp : t.pairs.length <= 150) (hg : (t.get key).isSome = true) :
   Calls Tryz.prog 55 #[za0 (P b) t.keys, .string key] w (zjm ok w (t.delete key) ds) := by
 have hkeys := ht.tw.keys_
 have hb0 : Below w.heap.size w ((w.alloc (.cells #[P b, .int .i64 t.keys] 88)).alloc (.cells #[.pointer none, .int .i64 0] 88)) := ((Below.refl _ _).alloc (Nat.le_refl _) _).alloc (by simp) _
 obtain ⟨W0, hW0⟩ : ∃ W0, W0 = (w.alloc (.cells #[P b, .int .i64 t.keys] 88)).alloc (.cells #[.pointer none, .int .i64 0] 88) := ⟨_, rfl⟩
 have hx : Blk W0 w.heap.size 88 #[P b, .int .i64 t.keys] := by rw [hW0]; exact (Blk.new _ _ _).alloc _
 have hr : Blk W0 (w.heap.size + 1) 88 #[.pointer none, .int .i64 0] := by rw [hW0]; exact Blk.new2 _ _ _ _
 rw [<- hW0] at hb0
 have hsz : W0.heap.size = w.heap.size + 1 + 1 := by rw [hW0]; simp
 have hf0 := hf.below hb0 (ok' := ok) (fun _ h => h)
 have GET := zaa (zfb t (P b) ds key W0 (.inr ⟨h, n, b, hroot, rfl, hf0⟩) ht hp)
 have hgt : t.get key = Tr.get h n key := by unfold Tree.get; rw [hroot]
 have hpp : t.pairs = Tr.pairs h n := by unfold Tree.pairs; rw [hroot]
 have hwf := ht.tw.some_ h n hroot
 have htop := ht.top h n hroot
 have hgp : Tr.get h n key = zbs key (Tr.pairs h n) := zep h _ _ n key hwf (za5 key)
 have hth : there key (Tr.pairs h n) = true := by rw [zcw, <- hgp, <- hgt]; exact hg
 have hpl : (Tr.pairs h n).length <= 150 := by rw [<- hpp]; exact hp
 have hdel : t.delete key = { keys := t.keys - 1, root := if t.keys - 1 = 0 then none else some (shrink h (Tr.drop h n key)) } := by
  unfold Tree.delete
  rw [hroot]
  simp only
  rw [<- hgt, hg]
  rfl
 have hlt : ∀ x ∈ ds, x < w.heap.size := fun x hx => (FRep.ds hf x hx).2
 have HDROP := zaa (fun (w1 : World) (hb1 : Below w.heap.size w w1) => zmc h (fun z => ok z /\ z < w.heap.size) zbz none n key b ds w1 hwf htop (za5 key) (zcj key) hth hpl (hf.lt.move (Agree.of_below hb1 (fun _ hx => hx.2)) (fun _ h => h)) hnd)
 have hdk : zd2 h (Tr.drop h n key) := zjj hwf (za5 key) (zcj key) hth htop hpl
 obtain ⟨t', ht'⟩ : ∃ t', t' = t.delete key := ⟨_, rfl⟩
 rw [<- ht'] at hdel ⊢
 obtain ⟨K, hK⟩ : ∃ K, K = t.keys := ⟨_, rfl⟩
 have hK1 : 1 <= K := by
  have hl := (zdt key (Tr.pairs h n) (zc3 h _ _ n hwf).1 hth).1
  rw [hK, hkeys, hpp]; omega
 have hK2 : K <= 150 := by rw [hK, hkeys]; exact hp
 rw [<- hK] at hdel hx GET ⊢ 
 rw [<- hK] at hW0
 obtain ⟨sv, hsv⟩ : ∃ sv, sv = (t.get key).getD ByteArray.empty := ⟨_, rfl⟩
 unfold za0 zgp at GET
 rw [hg, <- hsv] at GET
 have HDEL := zaa hdel
 have HX := zaa hx
 have HR := zaa hr
 have HB := zaa hb0
 have HW0 := zaa hW0
 have HDK := zaa hdk
 have HSZ := zaa hsz
 clear hf hf0 ht hp hg hx hr hb0 hW0 hgt hpp hwf htop hgp hth hpl hdel hdk ht' hroot hkeys hK hsv hsz
 have k0 : IntKind.i64.wrap ((K : Int) - 1) = ((K - 1 : Nat) : Int) := by rw [IntKind.wrap_i64]; omega
 unfold za0
 go_enter Tryz.func55, Tryz.ntmps55
 go_upto_region 6 with (first
  | (go_at_call 56; go_loud (
     rw [<- HW0.out]
     refine GET.out.mono ?_; rintro e w1 ⟨rfl, hb1⟩
     have hx1 := HX.out.below hb1 HX.out.lt
     have hr1 := HR.out.below hb1 HR.out.lt
     have y0 : w1.cell? ⟨w.heap.size, 0, none⟩ = some (P b) := by rw [hx1.cell]; rfl
     have y1 : w1.cell? ⟨w.heap.size, 1, none⟩ = some (.int .i64 K) := by rw [hx1.cell]; rfl
     have y2 : w1.frozen? ⟨w.heap.size, 1, none⟩ = false := hx1.frozen 1
     have HX1 := zaa hx1
     have HR1 := zaa hr1
     have HB1 := zaa hb1
     clear hx1 hr1 hb1))
  | (go_at_call 80; go_loud (
     refine (HDROP.out _ (((HB.out.trans (HB1.out.mono HB.out.size)).setCell (p := ⟨w.heap.size, 1, none⟩) (Nat.le_refl _) _))).mono ?_
     rintro e w2 ⟨b2, d2, rfl, hf2, hn2, hs2, hbb2, hbl2⟩
     have hx2 := (Blk.set_ HX1.out 1 (.int .i64 ((K - 1 : Nat) : Int))).below hbl2 (by have := HX1.out.lt; simp only [World.setCell]; simpa [World.setCell] using this)
     have hr2 := (HR1.out.far (p := ⟨w.heap.size, 1, none⟩) (by show w.heap.size + 1 ≠ w.heap.size; omega) (.int .i64 ((K - 1 : Nat) : Int))).below hbl2 (by have := HR1.out.lt; simpa [World.setCell] using this)
     have a0 : w2.cell? ⟨w.heap.size, 0, none⟩ = some (P b) := by rw [hx2.cell]; rfl
     have a1 : w2.frozen? ⟨w.heap.size, 0, none⟩ = false := hx2.frozen 0
     have a2 : w2.cell? ⟨w.heap.size, 1, none⟩ = some (.int .i64 ((K - 1 : Nat) : Int)) := by rw [hx2.cell]; rfl
     have HX2 := zaa hx2
     have HR2 := zaa hr2
     have HF2 := zaa hf2
     have HBL2 := zaa hbl2
     clear hx2 hr2 hf2 hbl2)))
 have hb2s := HBL2.out.size
 have hs0 := HB.out.size
 have hs1 := HB1.out.size
 have hsz := HSZ.out
 have hsw : (w1.setCell ⟨w.heap.size, 1, none⟩ (.int .i64 ((K - 1 : Nat) : Int))).heap.size = w1.heap.size := by simp [World.setCell]
 rw [hsw] at hb2s
 have hbw2 : Below w.heap.size w w2 := ((HB.out.trans (HB1.out.mono hs0)).setCell (p := ⟨w.heap.size, 1, none⟩) (Nat.le_refl _) _).trans (HBL2.out.mono (by rw [hsw]; omega))
 obtain ⟨W3, hW3⟩ : ∃ W3, W3 = w2.setCell ⟨w.heap.size, 0, none⟩ (P b2) := ⟨_, rfl⟩
 have hx3 : Blk W3 w.heap.size 88 #[P b2, .int .i64 ((K - 1 : Nat) : Int)] := by rw [hW3]; exact HX2.out.set_ 0 _
 have hr3 : Blk W3 (w.heap.size + 1) 88 #[.pointer none, .int .i64 0] := by rw [hW3]; exact HR2.out.far (by show w.heap.size + 1 ≠ w.heap.size; omega) _
 have hbw3 : Below w.heap.size w W3 := by rw [hW3]; exact hbw2.setCell (Nat.le_refl _) _
 have hf3 : FRep (fun z => up ok w.heap.size z /\ z ≠ w.heap.size /\ z ≠ w.heap.size + 1) W3 h (Tr.drop h n key) b2 (d2 ++ [b2]) := by
  have h1 : ∀ z, up (fun z => ok z /\ z < w.heap.size) (w1.setCell ⟨w.heap.size, 1, none⟩ (.int .i64 ((K - 1 : Nat) : Int))).heap.size z -> up ok w.heap.size z /\ z ≠ w.heap.size /\ z ≠ w.heap.size + 1 := by
   rintro z (⟨h1, h2⟩ | hz)
   . exact ⟨.inl h1, by omega, by omega⟩
   . rw [hsw] at hz
     exact ⟨.inr (by omega), by omega, by omega⟩
  rw [hW3]
  exact (HF2.out.more h1).move (Agree.setCell _ _ _ (fun hz => hz.2.1 rfl)) (fun _ hz => hz)
 have hsub3 : ∀ x ∈ d2 ++ [b2], x ∈ ds \/ w.heap.size <= x := by
  intro x hx
  rcases List.mem_append.1 hx with hx | hx
  . rcases hs2 x hx with k | k
    . exact .inl k
    . right; rw [hsw] at k; omega
  . rw [List.mem_singleton.1 hx]; right; rw [hsw] at hbb2; omega
 unfold P at hW3
 rw [<- hW3]
 have v0 : W3.cell? ⟨w.heap.size, 0, none⟩ = some (.pointer (some ⟨b2, 0, none⟩)) := by rw [hx3.cell]; rfl
 have v1 : W3.cell? ⟨w.heap.size, 1, none⟩ = some (.int .i64 ((K - 1 : Nat) : Int)) := by rw [hx3.cell]; rfl
 have v2 : W3.frozen? ⟨w.heap.size, 0, none⟩ = false := hx3.frozen 0
 have HX3 := zaa hx3
 have HR3 := zaa hr3
 have HF3 := zaa hf3
 have HB3 := zaa hbw3
 clear hx3 hr3 hf3 hbw3 hbw2 hW3 a0 a1 a2 y0 y1 y2 hsw hb2s hs0 hs1 hsz HDROP GET hs2 hbb2
 by_cases hk0 : K - 1 = 0
 . have e0 : ((K - 1 : Nat) : Int) = 0 := by omega
   rw [e0] at v1
   have v3 : W3.cell? ⟨w.heap.size + 1, 0, none⟩ = some (.pointer none) := by rw [HR3.out.cell]; rfl
   have v4 : W3.cell? ⟨w.heap.size + 1, 1, none⟩ = some (.int .i64 0) := by rw [HR3.out.cell]; rfl
   have v5 : W3.frozen? ⟨w.heap.size + 1, 0, none⟩ = false := HR3.out.frozen 0
   have v6 : W3.frozen? ⟨w.heap.size + 1, 1, none⟩ = false := HR3.out.frozen 1
   go_wp2
   refine wp_loop_rounds 1 ?_
   rw [rounds_succ]
   go_wp2
   obtain ⟨WE, hWE⟩ : ∃ WE, WE = ((W3.setCell ⟨w.heap.size, 0, none⟩ (.pointer none)).setCell ⟨w.heap.size + 1, 0, none⟩ (.pointer none)).setCell ⟨w.heap.size + 1, 1, none⟩ (.int .i64 0) := ⟨_, rfl⟩
   rw [<- hWE]
   have hrw : Blk WE (w.heap.size + 1) 88 #[.pointer none, .int .i64 0] := by
    rw [hWE]
    exact ((HR3.out.far (p := ⟨w.heap.size, 0, none⟩) (by show w.heap.size + 1 ≠ w.heap.size; omega) _).set_ 0 _).set_ 1 _
   have r0 : WE.cell? ⟨w.heap.size + 1, 0, none⟩ = some (.pointer none) := by rw [hrw.cell]; rfl
   have r1 : WE.cell? ⟨w.heap.size + 1, 1, none⟩ = some (.int .i64 0) := by rw [hrw.cell]; rfl
   have hbwE : Below w.heap.size w WE := by
    rw [hWE]
    exact ((HB3.out.setCell (p := ⟨w.heap.size, 0, none⟩) (Nat.le_refl _) _).setCell (p := ⟨w.heap.size + 1, 0, none⟩) (by show w.heap.size <= w.heap.size + 1; omega) _).setCell (p := ⟨w.heap.size + 1, 1, none⟩) (by show w.heap.size <= w.heap.size + 1; omega) _
   have hds' : t' = ⟨none, 0⟩ := by rw [HDEL.out, if_pos hk0, hk0]
   rw [hds']
   exact bodyPost_ret (v := za0 (.pointer none) 0) (by unfold za0; simp [results, Tryz.results55, go_sem, r0, r1]) rfl ⟨.pointer none, [], rfl, .inl ⟨rfl, rfl, rfl⟩, List.nodup_nil, (fun x hx => by cases hx), hbwE⟩
 . have e0 : ¬ ((K - 1 : Nat) : Int) = 0 := by omega
   have hds' : t' = ⟨some (shrink h (Tr.drop h n key)), K - 1⟩ := by rw [HDEL.out, if_neg hk0]
   have HDS' := zaa hds'
   clear hds'
   go_wp2
   go_loopg [29] h (fun k s29 wr => ∃ (n' : Tr k) (b' : Nat) (dk : List Nat), zvd ok w (shrink h (Tr.drop h n key)) (K - 1) ds k n' b' dk wr)
   case atStart =>
    exact ⟨_, b2, d2 ++ [b2], HF3.out, rfl, hn2, hsub3, HX3.out, HR3.out, HB3.out⟩
   case round =>
    obtain ⟨n', b', dk, hrep, hsame, hnd', hsub', hxr, hrr, hbr⟩ := hrel
    have c0 : wr.cell? ⟨w.heap.size, 0, none⟩ = some (.pointer (some ⟨b', 0, none⟩)) := by rw [hxr.cell]; rfl
    have c1 : wr.cell? ⟨w.heap.size, 1, none⟩ = some (.int .i64 ((K - 1 : Nat) : Int)) := by rw [hxr.cell]; rfl
    have z0 : wr.frozen? ⟨w.heap.size, 0, none⟩ = false := hxr.frozen 0
    have v3 : wr.cell? ⟨w.heap.size + 1, 0, none⟩ = some (.pointer none) := by rw [hrr.cell]; rfl
    have v4 : wr.cell? ⟨w.heap.size + 1, 1, none⟩ = some (.int .i64 0) := by rw [hrr.cell]; rfl
    have v5 : wr.frozen? ⟨w.heap.size + 1, 0, none⟩ = false := hrr.frozen 0
    have v6 : wr.frozen? ⟨w.heap.size + 1, 1, none⟩ = false := hrr.frozen 1
    have HREP := zaa hrep
    have HXR := zaa hxr
    have HRR := zaa hrr
    have HBR := zaa hbr
    clear hxr hrr hbr v0 v1 v2
    cases gk with
    | zero =>
      obtain ⟨A1, cc1, A2, cc2, hnd2, _, _, _⟩ := hrep
      have c4 : wr.cell? ⟨b', 4, none⟩ = some (.slice A2 0 cc2) := by rw [Blk.cell hnd2.node]; rfl
      clear hnd2
      rw [zns] at hsame
      go_wp2
      obtain ⟨WE, hWE⟩ : ∃ WE, WE = (wr.setCell ⟨w.heap.size + 1, 0, none⟩ (.pointer (some ⟨b', 0, none⟩))).setCell ⟨w.heap.size + 1, 1, none⟩ (.int .i64 ((K - 1 : Nat) : Int)) := ⟨_, rfl⟩
      rw [<- hWE]
      have hrw : Blk WE (w.heap.size + 1) 88 #[P b', .int .i64 ((K - 1 : Nat) : Int)] := by
       rw [hWE]
       exact (HRR.out.set_ 0 _).set_ 1 _
      have r0 : WE.cell? ⟨w.heap.size + 1, 0, none⟩ = some (P b') := by rw [hrw.cell]; rfl
      have r1 : WE.cell? ⟨w.heap.size + 1, 1, none⟩ = some (.int .i64 ((K - 1 : Nat) : Int)) := by rw [hrw.cell]; rfl
      have hbwE : Below w.heap.size w WE := by
       rw [hWE]
       exact (HBR.out.setCell (p := ⟨w.heap.size + 1, 0, none⟩) (by show w.heap.size <= w.heap.size + 1; omega) _).setCell (p := ⟨w.heap.size + 1, 1, none⟩) (by show w.heap.size <= w.heap.size + 1; omega) _
      have hrepE : FRep (up ok w.heap.size) WE _ n' b' dk := by
       rw [hWE]
       exact (HREP.out.move (Agree.setCell _ _ _ (fun hz => hz.2.2 rfl)) (fun _ hz => hz)).move (Agree.setCell _ _ _ (fun hz => hz.2.2 rfl)) (fun _ hz => hz.1)
      rw [HDS'.out, <- hsame]
      exact bodyPost_ret (v := za0 (P b') (K - 1)) (by unfold za0; simp [results, Tryz.results55, go_sem, r0, r1]) rfl ⟨P b', dk, rfl, .inr ⟨_, n', b', rfl, rfl, hrepE⟩, hnd', hsub', hbwE⟩
    | succ k =>
      obtain ⟨A1, cc1, A2, cc2, bs, dss, hnd2, _, _, hkk, hdd⟩ := hrep
      have c4 : wr.cell? ⟨b', 4, none⟩ = some (.slice A2 (Nd.es n').length cc2) := by rw [Blk.cell hnd2.node]; rfl
      by_cases h1 : (Nd.es n').length = 1
      . obtain ⟨e, he⟩ := List.length_eq_one_iff.1 h1
        rw [he] at hkk
        obtain ⟨bc, bq, dc, dq, rfl, rfl, r4, r5⟩ := RepL.head (k := e.1) (c := e.2) hkk
        have hnd3 := hnd2
        obtain ⟨g, o, u1, u2, rfl, hu1, hu2, hc1, hc2, hgl⟩ := hnd2.ks.cells_at (Below.refl wr.heap.size wr) (k := 0) (by omega)
        rw [he] at hu2
        obtain rfl : P bc = u2 := by simpa [kcells] using hu2
        have hc3 : wr.cell? ⟨g, o + 1, none⟩ = some (P bc) := by simpa using hc2
        rw [h1] at c4
        rw [zgn he] at hsame
        have hdn : dc.Nodup := by
         rw [hdd, List.flatten_cons] at hnd'
         exact (List.nodup_append.1 (List.nodup_append.1 hnd').1).1
        have hdm : ∀ x ∈ dc, x ∈ dk := fun x hx => by rw [hdd, List.flatten_cons]; exact List.mem_append_left _ (List.mem_append_left _ hx)
        clear hnd2 hnd3 hkk r5 hc1 hc2
        unfold P at hc3
        go_wp2
        go_roundg k
        case measure => omega
        case rel =>
         exact ⟨e.2, bc, dc, r4.move (Agree.setCell _ _ _ (fun hz => hz.2.1 rfl)) (fun _ hz => hz), hsame, hdn, (fun x hx => hsub' x (hdm x hx)), HXR.out.set_ 0 _, HRR.out.far (by show w.heap.size + 1 ≠ w.heap.size; omega) _, HBR.out.setCell (Nat.le_refl _) _⟩
      . have e1 : ((((Nd.es n').length : Int)) == 1) = false := by rw [beq_eq_false_iff_ne]; omega
        have e2 : ¬ (((Nd.es n').length : Int)) = 1 := by omega
        clear hnd2 hkk
        rw [zpk h1] at hsame
        go_wp2
        obtain ⟨WE, hWE⟩ : ∃ WE, WE = (wr.setCell ⟨w.heap.size + 1, 0, none⟩ (.pointer (some ⟨b', 0, none⟩))).setCell ⟨w.heap.size + 1, 1, none⟩ (.int .i64 ((K - 1 : Nat) : Int)) := ⟨_, rfl⟩
        rw [<- hWE]
        have hrw : Blk WE (w.heap.size + 1) 88 #[P b', .int .i64 ((K - 1 : Nat) : Int)] := by
         rw [hWE]
         exact (HRR.out.set_ 0 _).set_ 1 _
        have r0 : WE.cell? ⟨w.heap.size + 1, 0, none⟩ = some (P b') := by rw [hrw.cell]; rfl
        have r1 : WE.cell? ⟨w.heap.size + 1, 1, none⟩ = some (.int .i64 ((K - 1 : Nat) : Int)) := by rw [hrw.cell]; rfl
        have hbwE : Below w.heap.size w WE := by
         rw [hWE]
         exact (HBR.out.setCell (p := ⟨w.heap.size + 1, 0, none⟩) (by show w.heap.size <= w.heap.size + 1; omega) _).setCell (p := ⟨w.heap.size + 1, 1, none⟩) (by show w.heap.size <= w.heap.size + 1; omega) _
        have hrepE : FRep (up ok w.heap.size) WE _ n' b' dk := by
         rw [hWE]
         exact (HREP.out.move (Agree.setCell _ _ _ (fun hz => hz.2.2 rfl)) (fun _ hz => hz)).move (Agree.setCell _ _ _ (fun hz => hz.2.2 rfl)) (fun _ hz => hz.1)
        rw [HDS'.out, <- hsame]
        exact bodyPost_ret (v := za0 (P b') (K - 1)) (by unfold za0; simp [results, Tryz.results55, go_sem, r0, r1]) rfl ⟨P b', dk, rfl, .inr ⟨_, n', b', rfl, rfl, hrepE⟩, hnd', hsub', hbwE⟩
theorem znt {ok : Nat -> Prop} (t : Tree) (rp : Value) (ds : List Nat) (key : Str) (w : World) (hv : TreeV ok w t rp ds) (hnd : ds.Nodup) (ht : TR t) (hp : t.pairs.length <= 150) :
   Calls Tryz.prog 55 #[za0 rp t.keys, .string key] w (zjm ok w (t.delete key) ds) := by
 cases hg : t.get key with
 | none =>
   have : t.delete key = t := by
    unfold Tree.delete
    cases hr : t.root with
    | none => rfl
    | some x =>
      obtain ⟨h, n⟩ := x
      have : Tr.get h n key = none := by unfold Tree.get at hg; rw [hr] at hg; exact hg
      simp [this]
   rw [this]
   exact zmh t rp ds key w hv hnd ht hp hg
 | some v =>
   rcases hv with ⟨hr, _, _⟩ | ⟨h, n, b, hr, rfl, hf⟩
   . unfold Tree.get at hg; rw [hr] at hg; cases hg
   . exact zmi t h b n ds key w hr hf hnd ht hp (by rw [hg]; rfl)
theorem FRep.only {ok fp : Nat -> Prop} {w w' : World} (ho : Only fp w w') (hfp : ∀ z T cs, ok z -> Blk w z T cs -> Imm T -> ¬ fp z) {h : Nat} {t : Tr h} {b : Nat} {ds : List Nat} (hf : FRep ok w h t b ds) : FRep ok w' h t b ds := by
 have hm : ∀ {h : Nat} {t : Tr h} {b : Nat} {ds : List Nat}, FRep ok w h t b ds -> FRep (fun z => ok z /\ z < w.heap.size /\ ¬ fp z) w h t b ds := by
  intro h
  induction h with
  | zero =>
    intro t b ds ⟨A1, c1, A2, c2, hn, hb, hr, hd⟩
    refine ⟨A1, c1, A2, c2, hn, ⟨hb, Blk.lt hn.node, hfp b _ _ hb hn.node zlw⟩, fun h0 a ha => ?_, hd⟩
    obtain ⟨g, cur, e, hg⟩ := hn.ps.row_blk h0
    rw [ha] at e
    injection e with e
    exact ⟨hr h0 a ha, hn.ps.row_lt h0 a ha, hfp _ _ _ (hr h0 a ha) (e ▸ hg) zj1⟩
  | succ h ih =>
    intro t b ds ⟨A1, c1, A2, c2, bs, dss, hn, hb, hr, hk, hd⟩
    refine ⟨A1, c1, A2, c2, bs, dss, hn, ⟨hb, Blk.lt hn.node, hfp b _ _ hb hn.node zlw⟩, fun h0 a ha => ?_, hk.mono fun _ _ _ hk => ih hk, hd⟩
    obtain ⟨g, cur, e, hg⟩ := hn.ks.row_blk h0
    rw [ha] at e
    injection e with e
    exact ⟨hr h0 a ha, hn.ks.row_lt h0 a ha, hfp _ _ _ (hr h0 a ha) (e ▸ hg) zj2⟩
 exact (hm hf).move (fun z hz => ho.block z hz.2.1 hz.2.2) (fun _ hz => hz.1)
theorem TreeV.only {ok fp : Nat -> Prop} {w w' : World} {t : Tree} {rp : Value} {ds : List Nat} (h : TreeV ok w t rp ds) (ho : Only fp w w') (hfp : ∀ z T cs, ok z -> Blk w z T cs -> Imm T -> ¬ fp z) : TreeV ok w' t rp ds :=
 h.imp id fun ⟨h, n, b, e1, e2, e3⟩ => ⟨h, n, b, e1, e2, e3.only ho hfp⟩
theorem TreeV.at1 {ok : Nat -> Prop} {w w' : World} {t : Tree} {rp : Value} {ds : List Nat} {x : Nat} {X : TypeId} {cx : Array Value} (h : TreeV ok w t rp ds) (hx : Blk w x X cx) (hX : ¬ Imm X) (ho : Only (· = x) w w') : TreeV ok w' t rp ds :=
 h.only ho fun z T cs _ hz hT e => by subst e; exact Blk.ne_ hz hx (fun e => hX (e ▸ hT)) rfl
theorem zet {X : TypeId} (h1 : X ≠ 137) (h2 : X ≠ 68) (h3 : X ≠ 139) : ¬ Imm X := fun h => by
 rcases h with h | h | h
 . exact h1 h
 . exact h2 h
 . exact h3 h
theorem TreeV.ptr {ok : Nat -> Prop} {w : World} {t : Tree} {rp : Value} {ds : List Nat} (h : TreeV ok w t rp ds) : ∃ q, rp = .pointer q := by
 rcases h with ⟨_, e, _⟩ | ⟨_, _, b, _, e, _⟩
 . exact ⟨_, e⟩
 . exact ⟨_, e⟩
def opGet : ByteArray := ⟨#[103, 101, 116]⟩
set_option maxHeartbeats 1600000 in
theorem zss {ok : Nat -> Prop} (t x : Nat) (rp : Value) (T : Tree) (ds : List Nat) (write done : Bool) (stamp : Int) (s : DbS) (k : Str) (w : World) (hT : TxAt w t ⟨x, rp, T.keys, write, done, stamp⟩) (hD : DbAt w x s)
   (hV : TreeV ok w T rp ds) (hR : TR T) (hp : T.pairs.length <= 150) (hk : k.size <= 9223372036854775807) :
   Calls Tryz.prog 41 #[.pointer (some ⟨t, 0, none⟩), .string k] w fun e w' => ∃ v r, e = .returned (.tuple #[.string (r.getD ByteArray.empty), .bool r.isSome, v]) /\ (zbe s.poi done false write k = 0 -> r = T.get k) /\ (zbe s.poi done false write k ≠ 0 -> r = none) /\
    AnsV w' w.heap.size v opGet (zbe s.poi done false write k) /\ DbAt w' x s /\ TxAt w' t ⟨x, rp, T.keys, write, done, stamp⟩ /\ Only (· = x) w w' := by
 have t0 : w.cell? ⟨t, 0, none⟩ = some (.pointer (some ⟨x, 0, none⟩)) := zab hT 0 rfl
 have htx : t ≠ x := Blk.ne_ hT hD (by decide)
 obtain ⟨q, rfl⟩ := hV.ptr
 have HL := zaa (zce hD rfl)
 have HT := zaa hT
 have HV := zaa (fun W (ho : Only (· = x) w W) => hV.at1 hD (zet (by decide) (by decide) (by decide)) ho)
 have HXL := zaa hD.lt
 have HRT := zaa hR
 have HP := zaa hp
 clear hT hD hV hR hp
 obtain ⟨c, hc⟩ : ∃ c, c = zbe s.poi done false write k := ⟨_, rfl⟩
 rw [<- hc]
 have HC := zaa hc
 clear hc
 by_cases h0 : c = 0
 . subst h0
   go_enter_defers Tryz.func41, Tryz.ntmps41
   go_wp2_with (first
    | (go_at_call 51; go_loud (
       refine HL.out.mono ?_; rintro e w1 ⟨rfl, hb1, ho1, hs1⟩
       have hT1 := HT.out.only ho1 htx
       have k0 : w1.cell? ⟨t, 0, none⟩ = some (.pointer (some ⟨x, 0, none⟩)) := zab hT1 0 rfl
       have HM := zaa (zdb t x _ s 1 opGet k false w1.heap.size (w1.alloc (.cells #[.string k] 9)) (hT1.alloc _) (hb1.alloc _) rfl (zab (Blk.new w1 9 #[.string k]) 0 rfl) hk)
       rw [<- HC.out] at HM
       have k1 := fun o => zaj o (zab hT1 1 rfl)
       have k2 := fun o => zaj o (zab hT1 2 rfl)
       have HG := zaa (zfb T (.pointer q) ds k (w1.alloc (.cells #[.string k] 9)) ((HV.out w1 ho1).below ((Below.refl _ _).alloc (Nat.le_refl _) _) (fun _ h => h)) HRT.out HP.out)
       unfold za0 zgp at HG
       have HT1 := zaa hT1
       have HB1 := zaa hb1
       have HO1 := zaa ho1
       clear hT1 hb1 ho1 hs1))
    | (go_at_call 54; go_loud (
       unfold opGet at HM
       refine HM.out.mono ?_; rintro e w' ⟨v, rfl, ha⟩
       obtain ⟨rfl, rfl⟩ : v = .nilIface /\ w1.alloc (.cells #[.string k] 9) = w' := by
        rcases ha.2 with h | h
        . exact ⟨h.2.1, h.2.2⟩
        . exact absurd rfl h.1
       clear ha))
    | (go_at_call 56; go_loud (refine HG.out.mono ?_; rintro e w2 ⟨rfl, hb2⟩)))
   have hD2 : Blk w2 x 91 (zbw s 1) := (HB1.out.alloc _).below hb2 (HB1.out.alloc _).lt
   refine leaves_cons (f := 52) (args := #[.pointer (some ⟨x, 0, none⟩)]) (by simp) (by simp [go_sem]) ?_
   refine (zbd .returning hD2 rfl).mono ?_
   rintro e u' w4 ⟨rfl, rfl, hb4, ho4, hs4⟩
   refine ⟨_, by simp [results, Tryz.results41, go_sem], .nilIface, T.get k, rfl, fun _ => rfl, fun h => absurd rfl h, .inl ⟨rfl, rfl⟩, hb4, ?_, ?_⟩
   . exact Blk.only ((HT1.out.alloc _).below hb2 (HT1.out.alloc _).lt) ho4 htx
   . exact ((HO1.out.alloc _).below hb2).trans ho4
 . go_enter_defers Tryz.func41, Tryz.ntmps41
   go_wp2_with (first
    | (go_at_call 51; go_loud (
       refine HL.out.mono ?_; rintro e w1 ⟨rfl, hb1, ho1, hs1⟩
       have hT1 := HT.out.only ho1 htx
       have k0 : w1.cell? ⟨t, 0, none⟩ = some (.pointer (some ⟨x, 0, none⟩)) := zab hT1 0 rfl
       have HM := zaa (zdb t x _ s 1 opGet k false w1.heap.size (w1.alloc (.cells #[.string k] 9)) (hT1.alloc _) (hb1.alloc _) rfl (zab (Blk.new w1 9 #[.string k]) 0 rfl) hk)
       rw [<- HC.out] at HM
       have HT1 := zaa hT1
       have HB1 := zaa hb1
       have HO1 := zaa ho1
       have HS1 := zaa hs1
       clear hT1 hb1 ho1 hs1))
    | (go_at_call 54; go_loud (
       unfold opGet at HM
       refine HM.out.mono ?_; rintro e w2 ⟨v, rfl, ha⟩
       have hbl := ha.1
       rcases ha.2 with h | ⟨-, f, rfl, hf, hff⟩
       . exact absurd h.1 h0
       unfold zag)))
   have hD2 : Blk w2 x 91 (zbw s 1) := (HB1.out.alloc _).below hbl (HB1.out.alloc _).lt
   refine leaves_cons (f := 52) (args := #[.pointer (some ⟨x, 0, none⟩)]) (by simp) (by simp [go_sem]) ?_
   refine (zbd .returning hD2 rfl).mono ?_
   rintro e u' w4 ⟨rfl, rfl, hb4, ho4, hs4⟩
   refine ⟨.tuple #[.string ⟨#[]⟩, .bool false, zag f], by unfold zag; simp [results, Tryz.results41, go_sem], zag f, none, rfl, fun h => absurd h h0, fun _ => rfl, .inr ⟨h0, f, rfl, ?_, ?_⟩, hb4, ?_, ?_⟩
   . have hx1 : x < w1.heap.size := HB1.out.lt
     refine Blk.only hf ho4 (fun e => ?_)
     simp at hff
     omega
   . have := HS1.out; simp at hff; omega
   . exact Blk.only ((HT1.out.alloc _).below hbl (HT1.out.alloc _).lt) ho4 htx
   . exact ((HO1.out.alloc _).below hbl).trans ho4
end Go.Proofs.YtemondlgcmpbbaaGreatDoor
namespace Go.Proofs.YtemondlgcmpbbaaGreatDoor
open Go.RowKit Go.Shelf
set_option maxRecDepth 100000
attribute [local go_sem] Oper.semAt_some
theorem zra {F : Fence} (hd : F.depth = none) (k : Nat) : F.room k := fun d h => by rw [hd] at h; cases h
theorem RoundIn.any {F : Fence} (hd : F.depth = none) {m m' : Nat} {P : Program} {l : Nat} {f : FuncId} {tmps : Array Value} {assign body : Code} {w : World} {R : Ending -> World -> Prop}
 (h : RoundIn F m P l f tmps assign body w R) : RoundIn F m' P l f tmps assign body w R := ⟨h.1, fun c cs _ => h.2 c cs (zra hd _)⟩
theorem YieldAt.any {F : Fence} (hd : F.depth = none) {m : Nat} (m' : Nat) {P : Program} {l : Nat} {args : Array Value} {W : World} {R : Ending -> World -> Prop} (h : YieldAt F m P l args W R) : YieldAt F m' P l args W R := by
 obtain ⟨fn, tmps, assign, body, hy, hR⟩ := h
 exact ⟨fn, tmps, assign, body, hy, RoundIn.any hd hR⟩
set_option maxHeartbeats 1000000 in
theorem zrb {m : Nat} (l b1 b2 : Nat) (x : Str × Str) (hi : Str) (W : World) (A B : World -> Prop) (hlt : slt x.1 hi = true) (h1 : Blk W b1 9 #[.string hi]) (h2 : Blk W b2 226 #[.func (.yield l) #[] #[]])
   (hY : YieldAt Fence.wide m Tryz.prog l #[.agg #[.string x.1, .string x.2], .nilIface] (W.alloc (.cells #[.string x.1, .string x.2] 68)) fun e W' => (e = .returned (.bool true) /\ A W') \/ (e = .returned (.bool false) /\ B W')) :
   Calls Tryz.prog 141 #[.agg #[.string x.1, .string x.2], .pointer (some ⟨b1, 0, none⟩), .pointer (some ⟨b2, 0, none⟩)] W fun e W' => (e = .returned (.bool true) /\ A W') \/ (e = .returned (.bool false) /\ B W') := by
 have c1 := fun o => zaj o (zab h1 0 rfl)
 have c2 := fun o => zaj o (zab h2 0 rfl)
 have hb : Op.bytesLess x.1.toList hi.toList = true := hlt
 obtain ⟨fn, tmps, assign, body, hy, hR⟩ := YieldAt.any rfl 2 hY
 clear h1 h2 hY hlt
 refine (callsIn_wide (n := 3)).1 ?_
 refine callsIn_of_wp Tryz.func141 rfl trivial ?_ rfl
 simp only [Tryz.ntmps141, List.size_toArray, List.length_cons, List.length_nil, Nat.reduceAdd, Nat.reduceSub, Array.replicate_succ, Array.replicate_zero, List.push_toArray, List.append_toArray, List.nil_append, List.cons_append]
 gi_wp2
 refine hR.mono ?_
 rintro e W3 (⟨rfl, h⟩ | ⟨rfl, h⟩)
 . gi_wp2
   go_ret
   exact .inl ⟨rfl, h⟩
 . gi_wp2
   go_ret
   exact .inr ⟨rfl, h⟩
def KpY (n0 : Nat) (A B : World) : Prop := Below n0 A B /\ ∀ y T cs, (T = 226 \/ T = 9) -> Blk A y T cs -> Blk B y T cs
theorem KpY.trans {n0 : Nat} {A B C : World} (h : KpY n0 A B) (k : KpY n0 B C) : KpY n0 A C := ⟨h.1.trans k.1, fun y T cs hT hy => k.2 y T cs hT (h.2 y T cs hT hy)⟩
theorem KpY.put {n0 : Nat} {w : World} (hn : n0 <= w.heap.size) (W : World) (l : Nat) (o o' : Obj) (hl : w.heap.size <= l) (h : W.heap[l]? = some o) (h1 : o.isCells = false) (h2 : o.isWalk = false) : KpY n0 W (W.putObj l o') :=
 ⟨belowK_b hn W l o o' hl h h1 h2, fun y T cs _ hy => by
  have hne : y ≠ l := fun e => by
   subst e
   have hy' : W.heap[y]? = some (.cells cs T) := hy
   rw [h] at hy'
   cases hy'
   cases h1
  exact ((grownBy_putObj' W l o').block y (Blk.lt hy) (fun e => hne (by cases e; rfl))).trans hy⟩
def zmj (x : Str × Str) : Array Value := #[.agg #[.string x.1, .string x.2], .nilIface]
end Go.Proofs.YtemondlgcmpbbaaGreatDoor
