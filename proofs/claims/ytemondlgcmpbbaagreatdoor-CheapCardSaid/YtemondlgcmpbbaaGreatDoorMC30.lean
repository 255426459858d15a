/- Tree.Put. -/
import Derived.Test.YtemondlgcmpbbaaGreatDoorMC26
import Derived.Deep.DeepCutAuto
namespace Go.Proofs.YtemondlgcmpbbaaGreatDoor
open Go.RowKit

theorem SlC.row_blk {w : World} {T : TypeId} {A : Option Addr} {n c : Nat} {xs : List Value} (h : SlC w T (.slice A n c) n xs) (h0 : 0 < n) : ∃ (g : Addr) (cur : Array Value), A = some g ∧ Blk w g.block T cur := by
  obtain ⟨hl, A', c', hv, h1, h2, h3, hp⟩ := h
  injection hv with e1 _ e3
  subst e1
  obtain ⟨g, o, cur, hA, hg, hx⟩ := hp h0
  exact ⟨_, cur, hA, hg⟩

/-- What Put and Delete come to. -/
def TrPost (ok : Nat → Prop) (w : World) (t : Tree) (ds : List Nat) : Ending → World → Prop := fun e w' =>
  ∃ rp ds', e = .returned (treeV rp t.keys) ∧ TreeV (up ok w.heap.size) w' t rp ds' ∧ ds'.Nodup ∧ (∀ x ∈ ds', x ∈ ds ∨ w.heap.size ≤ x) ∧ Below w.heap.size w w'

/-- Ahead of the put of a root. -/
structure PutIn (ok : Nat → Prop) (w : World) (t' : Tree) (key v : Str) (ds : List Nat) (rp s9 : Value) (wx : World) (h : Nat) (n : Tr h) (b1 : Nat) (ds1 : List Nat) : Prop where
  at_ : s9 = P b1
  put : Calls Tryz.prog 84 #[P b1, .agg #[.string key, .string v]] wx (ChPost (up ok w.heap.size) wx h (Tr.put h n key v) ds1)
  ok : KidOk h (Tr.put h n key v)
  root : t'.root = some (grow h (Tr.put h n key v))
  sub : ∀ x ∈ ds1, x ∈ ds ∨ w.heap.size ≤ x
  box : Blk wx w.heap.size 88 #[rp, .int .i64 t'.keys]
  res : Blk wx (w.heap.size + 1) 88 #[.pointer none, .int .i64 0]
  below : Below w.heap.size w wx
/-- Behind it. -/
structure PutOut (ok : Nat → Prop) (w : World) (t' : Tree) (ds : List Nat) (rp s9 : Value) (wx : World) (h : Nat) (n : Tr h) (b2 : Nat) (ds2 : List Nat) : Prop where
  at_ : s9 = P b2
  rep : FRep (up ok w.heap.size) wx h n b2 ds2
  root : t'.root = some ⟨h, n⟩
  nd : ds2.Nodup
  sub : ∀ x ∈ ds2, x ∈ ds ∨ w.heap.size ≤ x
  box : Blk wx w.heap.size 88 #[rp, .int .i64 t'.keys]
  res : Blk wx (w.heap.size + 1) 88 #[.pointer none, .int .i64 0]
  below : Below w.heap.size w wx

theorem emptyLeaf_rep {ok : Nat → Prop} {w : World} (hok : ok w.heap.size) : FRep ok (w.alloc (.cells #[.int .i64 0, .int .u32 0, .bool false, .slice none 0 0, .slice none 0 0] 137)) 0 emptyLeaf w.heap.size [] :=
  ⟨none, 0, none, 0, ⟨Blk.new _ _ _, SlC.of_own (own_none _ 0 _), SlC.of_own (own_none _ 0 _)⟩, hok, rowOk.zero _ _, rfl⟩

theorem put_keys (t : Tree) (key v : Str) : (t.put key v).keys = if (t.get key).isSome then t.keys else t.keys + 1 := rfl
theorem put_emptyLeaf_ok {key v : Str} (h1 : okKey key) (h2 : okVal v) : KidOk 0 (Tr.put 0 emptyLeaf key v) := by
  obtain ⟨p1, p2⟩ := put_WF 0 noKey none emptyLeaf key v emptyLeaf_WF (slt_empty key) (inHi_all key) h1 h2
  have hp : Tr.pairs 0 (Tr.put 0 emptyLeaf key v) = [(key, v)] := by rw [p2]; simp [lput, place, there, emptyLeaf, Tr.pairs]
  exact kidok_of p1 (by show 1 ≤ (Tr.pairs 0 (Tr.put 0 emptyLeaf key v)).length; rw [hp]; simp) (by rw [hp]; simp)

/-- A tree's blocks are none of these two, which hold something else. -/
theorem FRep.typed {ok : Nat → Prop} {w : World} {h : Nat} {t : Tr h} {b : Nat} {ds : List Nat} {x y : Nat} {cx cy : Array Value} (hf : FRep ok w h t b ds) (hx : Blk w x 88 cx) (hy : Blk w y 88 cy) : FRep (fun z => ok z ∧ z < w.heap.size ∧ z ≠ x ∧ z ≠ y) w h t b ds := by
  induction h generalizing b ds with
  | zero =>
    obtain ⟨A1, c1, A2, c2, hn, hb, hr, hd⟩ := hf
    refine ⟨A1, c1, A2, c2, hn, ⟨hb, Blk.lt hn.node, Blk.ne_ hn.node hx (by decide), Blk.ne_ hn.node hy (by decide)⟩, fun h0 a ha => ?_, hd⟩
    obtain ⟨g, cur, e, hg⟩ := hn.ps.row_blk h0
    rw [ha] at e
    injection e with e
    exact ⟨hr h0 a ha, hn.ps.row_lt h0 a ha, Blk.ne_ (e ▸ hg) hx (by decide), Blk.ne_ (e ▸ hg) hy (by decide)⟩
  | succ h ih =>
    obtain ⟨A1, c1, A2, c2, bs, dss, hn, hb, hr, hk, hd⟩ := hf
    refine ⟨A1, c1, A2, c2, bs, dss, hn, ⟨hb, Blk.lt hn.node, Blk.ne_ hn.node hx (by decide), Blk.ne_ hn.node hy (by decide)⟩, fun h0 a ha => ?_, hk.mono fun _ _ _ hk => ih hk, hd⟩
    obtain ⟨g, cur, e, hg⟩ := hn.ks.row_blk h0
    rw [ha] at e
    injection e with e
    exact ⟨hr h0 a ha, hn.ks.row_lt h0 a ha, Blk.ne_ (e ▸ hg) hx (by decide), Blk.ne_ (e ▸ hg) hy (by decide)⟩

set_option maxRecDepth 100000 in
set_option maxHeartbeats 1600000 in
theorem tput_any {ok : Nat → Prop} (t : Tree) (rp : Value) (ds : List Nat) (key v : Str) (w : World) (hv : TreeV ok w t rp ds) (hnd : ds.Nodup) (ht : TR t) (hp : t.pairs.length ≤ 150) (h1 : okKey key) (h2 : okVal v) :
    Calls Tryz.prog 58 #[treeV rp t.keys, .string key, .string v] w (TrPost ok w (t.put key v) ds) := by
  have hkeys : t.keys ≤ 150 := by rw [ht.tw.keys_]; exact hp
  have hb0 : Below w.heap.size w ((w.alloc (.cells #[rp, .int .i64 t.keys] 88)).alloc (.cells #[.pointer none, .int .i64 0] 88)) := ((Below.refl _ _).alloc (Nat.le_refl _) _).alloc (by simp) _
  obtain ⟨W0, hW0⟩ : ∃ W0, W0 = (w.alloc (.cells #[rp, .int .i64 t.keys] 88)).alloc (.cells #[.pointer none, .int .i64 0] 88) := ⟨_, rfl⟩
  have hx : Blk W0 w.heap.size 88 #[rp, .int .i64 t.keys] := by rw [hW0]; exact (Blk.new _ _ _).alloc _
  have hr : Blk W0 (w.heap.size + 1) 88 #[.pointer none, .int .i64 0] := by rw [hW0]; exact Blk.new2 _ _ _ _
  rw [← hW0] at hb0
  have hv0 := hv.below hb0 (ok' := ok) (fun _ h => h)
  have hds0 := hv.ds
  have GET := hide (get_any t rp ds key W0 hv0 ht hp)
  obtain ⟨t', ht'⟩ : ∃ t', t' = t.put key v := ⟨_, rfl⟩
  have hkp : t'.keys = if (t.get key).isSome then t.keys else t.keys + 1 := by rw [ht']; rfl
  rw [← ht']
  have HT' := hide ht'
  clear ht'
  obtain ⟨there, hth⟩ : ∃ th, th = (t.get key).isSome := ⟨_, rfl⟩
  rw [← hth] at hkp
  have HKP := hide hkp
  have HTH := hide hth
  have HV := hide hv
  have HND := hide hnd
  have HT := hide ht
  have HP := hide hp
  have HX := hide hx
  have HR := hide hr
  have HB := hide hb0
  have HW0 := hide hW0
  have HDS := hide hds0
  have x0 : W0.cell? ⟨w.heap.size, 0, none⟩ = some rp := by rw [hx.cell]; rfl
  have x1 : W0.cell? ⟨w.heap.size, 1, none⟩ = some (.int .i64 t.keys) := by rw [hx.cell]; rfl
  have k0 : IntKind.i64.wrap ((t.keys : Int) + 1) = (t.keys : Int) + 1 := by rw [IntKind.wrap_i64]; omega
  clear hv hnd ht hp hx hr hb0 hv0 hkp hth hW0 hds0
  unfold treeV at GET ⊢
  go_enter Tryz.func58, Tryz.ntmps58
  go_upto_if 19 with (first
    | (go_at_call 56; go_loud (
       rw [← HW0.out]
       refine GET.out.mono ?_; rintro e w1 ⟨rfl, hb1⟩
       unfold getV
       rw [← HTH.out]
       have hx1 := HX.out.below hb1 HX.out.lt
       have hr1 := HR.out.below hb1 HR.out.lt
       have y1 : w1.cell? ⟨w.heap.size, 1, none⟩ = some (.int .i64 t.keys) := by rw [hx1.cell]; rfl
       have z1 : w1.frozen? ⟨w.heap.size, 1, none⟩ = false := hx1.frozen 1
       have HX1 := hide hx1
       have HR1 := hide hr1
       have HB1 := hide (HB.out.trans (hb1.mono HB.out.size))
       clear hx1 hr1 hb1)))
  go_cut [6] (fun s6 wx => s6 = .pointer (some ⟨w.heap.size + 1, 0, none⟩) ∧ Blk wx w.heap.size 88 #[rp, .int .i64 t'.keys] ∧ Blk wx (w.heap.size + 1) 88 #[.pointer none, .int .i64 0] ∧ Below w.heap.size w wx)
  case first =>
    cases there with
    | true =>
      go_wp2
      go_meet
      have e := HKP.out
      simp only [if_true] at e
      rw [e]
      exact ⟨rfl, HX1.out, HR1.out, HB1.out⟩
    | false =>
      go_wp2
      go_meet
      have e : t'.keys = t.keys + 1 := HKP.out
      rw [e]
      refine ⟨rfl, HX1.out.set_ 1 (.int .i64 ((t.keys + 1 : Nat) : Int)), HR1.out.far (by show w.heap.size + 1 ≠ w.heap.size; omega) _, HB1.out.setCell (by show w.heap.size ≤ w.heap.size; omega) _⟩
  case rest =>
  obtain ⟨rfl, hxc, hrc, hbc⟩ := hcut
  have u0 : wc.cell? ⟨w.heap.size, 0, none⟩ = some rp := by rw [hxc.cell]; rfl
  have HXC := hide hxc
  have HRC := hide hrc
  have HBC := hide hbc
  clear hxc hrc hbc
  go_upto_region 5 with fail
  go_cut [9, 27] (fun s9 s27 wx => s9 = rp ∧ s27 = .bool t.root.isNone ∧ wx = wc)
  case first =>
    rcases HV.out with ⟨hr, rfl, rfl⟩ | ⟨h, n, b, hr, rfl, hf⟩
    · go_wp2
      go_meet
      rw [hr]; exact ⟨rfl, rfl, rfl⟩
    · unfold P at *
      go_wp2
      go_meet
      rw [hr]; exact ⟨rfl, rfl, rfl⟩
  case rest =>
  obtain ⟨e9, rfl, rfl⟩ := hcut
  rw [e9]
  clear e9
  go_upto_if 27 with fail
  go_cut [9] (fun s9 wx => ∃ h n b1 ds1, PutIn ok w t' key v ds rp s9 wx h n b1 ds1)
  case first =>
    rcases HV.out with ⟨hr, rfl, rfl⟩ | ⟨h, n, b, hr, rfl, hf⟩
    · rw [hr]
      go_wp2
      go_meet
      have hl : Below w.heap.size w (wc.alloc (.cells #[.int .i64 0, .int .u32 0, .bool false, .slice none 0 0, .slice none 0 0] 137)) := HBC.out.alloc HBC.out.size _
      have hroot : t'.root = some (grow 0 (Tr.put 0 emptyLeaf key v)) := by rw [HT'.out]; unfold Tree.put; rw [hr]
      refine ⟨0, emptyLeaf, wc.heap.size, [], rfl, put_leaf emptyLeaf key v _ _ _ (emptyLeaf_rep (.inr HBC.out.size)) List.Pairwise.nil (by show 0 ≤ 400; omega), put_emptyLeaf_ok h1 h2, hroot, (fun x hx => by cases hx), HXC.out.alloc _, HRC.out.alloc _, hl⟩
    · rw [hr]
      unfold P at *
      go_wp2
      go_meet
      have hwf := HT.out.tw.some_ h n hr
      have htop := HT.out.top h n hr
      have hpp : t.pairs = Tr.pairs h n := by unfold Tree.pairs; rw [hr]
      have hpl : (Tr.pairs h n).length ≤ 150 := by rw [← hpp]; exact HP.out
      obtain ⟨p1, p2⟩ := put_WF h noKey none n key v hwf (slt_empty key) (inHi_all key) h1 h2
      have hlp := (lput_len key v (Tr.pairs h n) (WF_pairs h _ _ n hwf).1).1
      have hroot : t'.root = some (grow h (Tr.put h n key v)) := by rw [HT'.out]; unfold Tree.put; rw [hr]
      refine ⟨h, n, b, ds, rfl, put_any h _ noKey none n key v b ds wc hwf htop (slt_empty key) (inHi_all key) h1 h2 hpl ?_ HND.out, kidok_of p1 ((put_R h noKey none n key v hwf (slt_empty key) (inHi_all key) h1 h2).1 htop) (by rw [p2, hlp]; split <;> omega), hroot, (fun x hx => .inl hx), HXC.out, HRC.out, HBC.out⟩
      exact hf.below HBC.out (fun _ h => .inl h)
  case rest =>
  obtain ⟨h, n, b1, ds1, hin⟩ := hcut
  obtain ⟨rfl, hput, hkok, hroot, hsub, hxc, hrc, hbc⟩ := hin
  obtain ⟨n', hn'⟩ : ∃ n', n' = Tr.put h n key v := ⟨_, rfl⟩
  rw [← hn'] at hput hkok hroot
  have HPUT := hide hput
  have HXD := hide hxc
  have HRD := hide hrc
  have HBD := hide hbc
  have HROOT := hide hroot
  have HSUB := hide hsub
  have hws : w.heap.size ≤ wc.heap.size := hbc.size
  have hup : ∀ B, w.heap.size ≤ B → ∀ x, up (up ok w.heap.size) B x → up ok w.heap.size x := by
    rintro B hB x (hx | hx)
    · exact hx
    · exact .inr (by omega)
  have HUP := hide hup
  have HKOK := hide hkok
  clear hput hkok hxc hrc hbc hroot hsub hn' hup u0 x0 x1 y1 z1
  go_upto_if 36 with (first
    | (go_at_call 84; go_loud (
       refine HPUT.out.mono ?_; rintro e w2 ⟨b2, d2, rfl, hf2, hn2, hs2, hbb2, hbl2⟩
       have FULL := hide (full_any h n' b2 (d2 ++ [b2]) w2 hf2.rep HKOK.out.2.1 (Nat.le_trans HKOK.out.2.2 (by omega)) (Nat.le_trans HKOK.out.1.size (by have := HKOK.out.2.2; omega)))
       have HF2 := hide hf2
       have HBL2 := hide hbl2
       have hz2 := hbl2.size
       clear hf2 hbl2))
    | (go_at_call 85; refine FULL.out.mono ?_; rintro e w3 ⟨rfl, hb3⟩))
  have hz3 := hb3.size
  go_cut [9] (fun s9 wx => ∃ h n b2 ds2, PutOut ok w t' ds rp s9 wx h n b2 ds2)
  case first =>
    have hbw3 : Below w.heap.size w w3 := HBD.out.trans ((HBL2.out.trans (hb3.mono hz2)).mono hws)
    have hx3 := HXD.out.below (HBL2.out.trans (hb3.mono hz2)) HXD.out.lt
    have hr3 := HRD.out.below (HBL2.out.trans (hb3.mono hz2)) HRD.out.lt
    have hf3 : FRep (up ok w.heap.size) w3 h n' b2 (d2 ++ [b2]) := HF2.out.below hb3 (HUP.out _ hws)
    have hsub3 : ∀ x ∈ d2 ++ [b2], x ∈ ds ∨ w.heap.size ≤ x := by
      intro x hx
      rcases List.mem_append.1 hx with hx | hx
      · rcases hs2 x hx with k | k
        · exact HSUB.out x k
        · exact .inr (by omega)
      · rw [List.mem_singleton.1 hx]; exact .inr (by omega)
    cases hfl : Tr.full h n' with
    | false =>
      have HX3 := hide hx3
      have HR3 := hide hr3
      have HF3 := hide hf3
      clear hx3 hr3 hf3
      go_wp2
      go_meet
      refine ⟨h, n', b2, d2 ++ [b2], rfl, HF3.out, ?_, hn2, hsub3, HX3.out, HR3.out, hbw3⟩
      rw [HROOT.out]; unfold grow; rw [hfl]; rfl
    | true =>
      have SPLIT := hide (split_f h n' b2 (d2 ++ [b2]) w3 hf3 (HKOK.out.1.full hfl) (Nat.le_trans HKOK.out.2.2 (by omega)) (Nat.le_trans HKOK.out.1.size (by have := HKOK.out.2.2; omega)))
      have HX3 := hide hx3
      have HR3 := hide hr3
      have HF3 := hide hf3
      clear hx3 hr3 hf3
      go_wp2_with (go_at_call 86; go_loud (
        refine SPLIT.out.mono ?_
        rintro e w4 ⟨b3, b4, d3, d4, rfl, x1, x2, hdd, y1, y2, y3, hb4⟩))
      go_meet
      have hz4 := hb4.size
      have hal : Below w4.heap.size w4 (((w4.alloc (.cells #[.string (Tr.split h n').2.1, P b4] 139)).alloc (.cells #[.string ⟨#[]⟩, P b3, .string (Tr.split h n').2.1, P b4] 139)).alloc (.cells #[.int .i64 0, .int .u32 0, .bool true, .slice none 0 0, .slice (some ⟨w4.heap.size + 1, 0, none⟩) 2 2] 137)) :=
        (((Below.refl w4.heap.size w4).alloc (Nat.le_refl _) _).alloc (by simp) _).alloc (by simp; omega) _
      have hgr : grow h n' = ⟨h + 1, (fresh [(ByteArray.empty, (Tr.split h n').1), ((Tr.split h n').2.1, (Tr.split h n').2.2)] : Nd (Tr h))⟩ := by unfold grow; rw [hfl]; rfl
      have hnd0 : ([] ++ (d3 ++ d4 ++ dirtyAt (Tr.dirty h n') b2) :: ([] : List (List Nat))).flatten.Nodup := by simpa [hdd] using hn2
      have hds3 : ∀ x ∈ ([] ++ (d3 ++ d4 ++ dirtyAt (Tr.dirty h n') b2) :: ([] : List (List Nat))).flatten, x < w3.heap.size := fun x hx => (FRep.ds HF3.out x (by simpa [hdd] using hx)).2
      obtain ⟨nd1, nd2⟩ := nodup_split hnd0 hds3 y1 y2 y3
      have y1b : b3 < w4.heap.size := (FRep.ds x1 b3 (by simp)).2
      have y2b : b4 < w4.heap.size := (FRep.ds x2 b4 (by simp)).2
      have nd3 : ∀ x ∈ ([d3 ++ [b3], d4 ++ [b4]] : List (List Nat)).flatten, x < w4.heap.size ∧ (x ∈ ds ∨ w.heap.size ≤ x) := by
        intro x hx
        rcases nd2 x hx with k | k | k
        · have := hds3 x k
          exact ⟨by omega, hsub3 x (by simpa [hdd] using k)⟩
        · exact ⟨by omega, .inr (by omega)⟩
        · exact ⟨by omega, .inr (by omega)⟩
      obtain ⟨W5, hW5⟩ : ∃ W5, W5 = (((w4.alloc (.cells #[.string (Tr.split h n').2.1, P b4] 139)).alloc (.cells #[.string ⟨#[]⟩, P b3, .string (Tr.split h n').2.1, P b4] 139)).alloc (.cells #[.int .i64 0, .int .u32 0, .bool true, .slice none 0 0, .slice (some ⟨w4.heap.size + 1, 0, none⟩) 2 2] 137)) := ⟨_, rfl⟩
      have hn5 : Blk W5 (w4.heap.size + 1 + 1) 137 #[.int .i64 0, .int .u32 0, .bool true, .slice none 0 0, .slice (some ⟨w4.heap.size + 1, 0, none⟩) 2 2] := by
        rw [hW5]
        have := Blk.new ((w4.alloc (.cells #[.string (Tr.split h n').2.1, P b4] 139)).alloc (.cells #[.string ⟨#[]⟩, P b3, .string (Tr.split h n').2.1, P b4] 139)) 137 #[.int .i64 0, .int .u32 0, .bool true, .slice none 0 0, .slice (some ⟨w4.heap.size + 1, 0, none⟩) 2 2]
        simpa using this
      have hk5 : Blk W5 (w4.heap.size + 1) 139 #[.string ⟨#[]⟩, P b3, .string (Tr.split h n').2.1, P b4] := by
        rw [hW5]
        exact (Blk.new2 _ _ _ _).alloc _
      have hal5 : Below w4.heap.size w4 W5 := by rw [hW5]; exact hal
      have hw5 : Below w.heap.size w W5 := (hbw3.trans (hb4.mono (by omega))).trans (hal5.mono (by omega))
      have hrow : W5.ownsRow w4.heap.size 139 2 (.slice (some ⟨w4.heap.size + 1, 0, none⟩) 2 2) 2 [.string ⟨#[]⟩, P b3, .string (Tr.split h n').2.1, P b4] :=
        ⟨rfl, .inr ⟨w4.heap.size + 1, 2, #[.string ⟨#[]⟩, P b3, .string (Tr.split h n').2.1, P b4], rfl, by omega, hk5, Nat.le_refl _, by unfold maxLen; omega, rfl, rfl⟩⟩
      have hkids : RepL (FRep (up ok w.heap.size) W5 h) [(ByteArray.empty, (Tr.split h n').1), ((Tr.split h n').2.1, (Tr.split h n').2.2)] [b3, b4] [d3 ++ [b3], d4 ++ [b4]] :=
        ⟨x1.below hal5 (HUP.out _ (by omega)), x2.below hal5 (HUP.out _ (by omega)), trivial⟩
      have hrep5 := FRep.mk_branch (ok := up ok w.heap.size) (base := w4.heap.size) (n := 2) (bs := [b3, b4]) (dss := [d3 ++ [b3], d4 ++ [b4]]) (es := [(ByteArray.empty, (Tr.split h n').1), ((Tr.split h n').2.1, (Tr.split h n').2.2)]) rfl hn5 (own_none _ _ _) hrow (by omega) (fun x hx _ => .inr (by omega)) hkids
      rw [← hW5]
      refine ⟨h + 1, _, w4.heap.size + 1 + 1, _, rfl, hrep5, ?_, ?_, ?_, (HX3.out.below hb4 HX3.out.lt).below hal5 (Nat.lt_of_lt_of_le HX3.out.lt hz4), (HR3.out.below hb4 HR3.out.lt).below hal5 (Nat.lt_of_lt_of_le HR3.out.lt hz4), hw5⟩
      · rw [HROOT.out, hgr]
      · refine List.nodup_append.2 ⟨nd1, by simp, fun a ha x hx e => ?_⟩
        rw [List.mem_singleton.1 hx] at e
        have := (nd3 a ha).1
        omega
      · intro x hx
        rcases List.mem_append.1 hx with hx | hx
        · exact (nd3 x hx).2
        · rw [List.mem_singleton.1 hx]; exact .inr (by omega)
  case rest =>
  obtain ⟨h2, n2, b2, ds2, hout⟩ := hcut
  obtain ⟨rfl, hrep, hroot, hnd2, hsub2, hxc, hrc, hbc⟩ := hout
  have v0 : wc.frozen? ⟨w.heap.size, 0, none⟩ = false := hxc.frozen 0
  have v1 : wc.cell? ⟨w.heap.size, 0, none⟩ = some rp := by rw [hxc.cell]; rfl
  have v2 : wc.cell? ⟨w.heap.size, 1, none⟩ = some (.int .i64 t'.keys) := by rw [hxc.cell]; rfl
  have v3 : wc.frozen? ⟨w.heap.size + 1, 0, none⟩ = false := hrc.frozen 0
  have v4 : wc.frozen? ⟨w.heap.size + 1, 1, none⟩ = false := hrc.frozen 1
  have v5 : wc.cell? ⟨w.heap.size + 1, 0, none⟩ = some (.pointer none) := by rw [hrc.cell]; rfl
  have v6 : wc.cell? ⟨w.heap.size + 1, 1, none⟩ = some (.int .i64 0) := by rw [hrc.cell]; rfl
  have HREP := hide hrep
  have HROOT2 := hide hroot
  have HBE := hide hbc
  have HXE := hide hxc
  have HRE := hide hrc
  clear hrep hroot hxc hrc hbc
  go_wp2
  have hwe := HBE.out.size
  obtain ⟨WE, hWE⟩ : ∃ WE, WE = ((wc.setCell ⟨w.heap.size, 0, none⟩ (.pointer (some ⟨b2, 0, none⟩))).setCell ⟨w.heap.size + 1, 0, none⟩ (.pointer (some ⟨b2, 0, none⟩))).setCell ⟨w.heap.size + 1, 1, none⟩ (.int .i64 t'.keys) := ⟨_, rfl⟩
  rw [← hWE]
  have hrw : Blk WE (w.heap.size + 1) 88 #[P b2, .int .i64 t'.keys] := by
    rw [hWE]
    exact ((HRE.out.far (p := ⟨w.heap.size, 0, none⟩) (by show w.heap.size + 1 ≠ w.heap.size; omega) _).set_ 0 _).set_ 1 _
  have r0 : WE.cell? ⟨w.heap.size + 1, 0, none⟩ = some (P b2) := by rw [hrw.cell]; rfl
  have r1 : WE.cell? ⟨w.heap.size + 1, 1, none⟩ = some (.int .i64 t'.keys) := by rw [hrw.cell]; rfl
  have hnk : Agree (fun x => up ok w.heap.size x ∧ x < wc.heap.size ∧ x ≠ w.heap.size ∧ x ≠ w.heap.size + 1) wc WE := by
    rw [hWE]
    exact ((Agree.setCell _ _ _ (fun h => h.2.2.1 rfl)).trans (Agree.setCell _ _ _ (fun h => h.2.2.2 rfl))).trans (Agree.setCell _ _ _ (fun h => h.2.2.2 rfl))
  have hrepE : FRep (up ok w.heap.size) WE h2 n2 b2 ds2 := (HREP.out.typed HXE.out HRE.out).move hnk (fun x hx => hx.1)
  have hbwE : Below w.heap.size w WE := by
    rw [hWE]
    exact ((HBE.out.setCell (p := ⟨w.heap.size, 0, none⟩) (by show w.heap.size ≤ w.heap.size; omega) _).setCell (p := ⟨w.heap.size + 1, 0, none⟩) (by show w.heap.size ≤ w.heap.size + 1; omega) _).setCell (p := ⟨w.heap.size + 1, 1, none⟩) (by show w.heap.size ≤ w.heap.size + 1; omega) _
  exact bodyPost_ret (v := treeV (P b2) t'.keys) (by unfold treeV; simp [results, Tryz.results58, go_sem, r0, r1]) rfl ⟨P b2, ds2, rfl, .inr ⟨h2, n2, b2, HROOT2.out, rfl, hrepE⟩, hnd2, hsub2, hbwE⟩
end Go.Proofs.YtemondlgcmpbbaaGreatDoor
