/- Km Kn Ro Td Tp: merged. -/
import Derived.Test.YtemondlgcmpbbaaGreatDoorMC40
import Derived.Deep.Slices
import Derived.Test.YtemondlgcmpbbaaGreatDoorMC29
import Derived.Test.YtemondlgcmpbbaaGreatDoorMC31
import Derived.Deep.QuietTactic
/- Walks: Disk.Commit, where the device tells no error: what it comes to. -/
namespace Go.Proofs.YtemondlgcmpbbaaGreatDoor
open Go.RowKit

set_option maxRecDepth 100000 in
set_option maxHeartbeats 6400000 in
theorem commit0 (K b g base n : Nat) (cv : Value) (m : Nums) (bytes : List UInt8) (cache : List (Nat × List UInt8)) (dk : Nat) (hd : Hd) (T : Tree) (q0 : Option Addr) (ds : List Nat) (A : Option Addr) (c : Nat) (R : List (Tree × Value × List Nat)) (w : World) (h : ComIn w K b g base n cv m bytes cache dk hd T (.pointer q0) ds A c R)
    (s : Nat → NdS) (hs : ∀ j (hj : j < ds.length), NdAt w ds[j] (s j)) (hsd : ∀ j, j < ds.length → (s j).dirty = true) (sl gn : Nat) (hsl : sl = 1 - hd.slot) (hgn : gn = hd.gen + 1) (T1 : Tree) (hT1 : T1 = T.lay gn true ((fr (usedL R T) n 2).take ds.length)) :
    Calls Tryz.prog 60 #[.pointer (some ⟨dk, 0, none⟩), treeV (.pointer q0) T.keys, .slice A R.length c] w
      (ComEnd (dfp b g cv) w.heap.size (K + ds.length) b g base n (wrotes m ds.length) bytes (cache ++ wlist T1) dk ds (fun j => (s j).at_ ((fr (usedL R T) n 2).getD j 0) gn) sl gn T1.rblk T1.rgen w) := by
  have C1 := hide (fun (u1 u3 u5 u7 u8 u9 u10 u11 u12 u13 u14 u15 u16 u17 u18 u19 u20 u21 u22 u23 u24 u25 u26 u27 u28 u29 u30 u31 u32 u33 u34 u35 u36 u37 u38 u39 u40 u41 u42 u43 u44 u45 u46 u47 u48 u49 u50 u51 u52 u53 u54 u55 u56 u57 u58 u59 u60 u61 u62 u63 u64 u65 u66 u67 u68 u69 u70 u71 u72 u73 u74 u75 u76 u77 u78 u79 u80 u81 u82 u83 u84 u85 u86 u87 u88 u89 u90 u91 u92 u93 u94 u95 u96 u97 u98 u99 u100 u101 u102 u103 u104 u105 u106 u107 u108 u109 u110 u111 u112 u113 u114 u115 u116 u117 u118 u119 u120 u121 u122 u123 u124 u125 u126 u127 u128 u129 u130 u131 u132 u133 u134 u135 u136 u137 u138 u139 : Value) => commit1 K b g base n cv m bytes cache dk hd T q0 ds A c R w h s hs hsd sl gn hsl hgn T1 hT1 _ rfl u1 u3 u5 u7 u8 u9 u10 u11 u12 u13 u14 u15 u16 u17 u18 u19 u20 u21 u22 u23 u24 u25 u26 u27 u28 u29 u30 u31 u32 u33 u34 u35 u36 u37 u38 u39 u40 u41 u42 u43 u44 u45 u46 u47 u48 u49 u50 u51 u52 u53 u54 u55 u56 u57 u58 u59 u60 u61 u62 u63 u64 u65 u66 u67 u68 u69 u70 u71 u72 u73 u74 u75 u76 u77 u78 u79 u80 u81 u82 u83 u84 u85 u86 u87 u88 u89 u90 u91 u92 u93 u94 u95 u96 u97 u98 u99 u100 u101 u102 u103 u104 u105 u106 u107 u108 u109 u110 u111 u112 u113 u114 u115 u116 u117 u118 u119 u120 u121 u122 u123 u124 u125 u126 u127 u128 u129 u130 u131 u132 u133 u134 u135 u136 u137 u138 u139)
  clear h hs hsd hsl hgn hT1
  unfold treeV
  go_enter_defers Tryz.func60, Tryz.ntmps60
  go_upto_region 0 with fail
  go_cut [4, 6] from 4 to 6 (fun s4 s6 wx => s4 = .pointer (some ⟨w.heap.size, 0, none⟩) ∧ s6 = .pointer (some ⟨w.heap.size + 1, 0, none⟩) ∧ wx = (w.alloc (.cells #[.pointer q0, .int .i64 T.keys] 88)).alloc (.cells #[.nilIface] 31))
  case first =>
    go_wp2
    go_meet
    exact ⟨rfl, rfl, rfl⟩
  case rest =>
    obtain ⟨rfl, rfl, rfl⟩ := hcut
    rename_i hK
    exact hK _ _ (C1.out _ _ _ _ _ _ _ _ _ _ _ _ _ _ _ _ _ _ _ _ _ _ _ _ _ _ _ _ _ _ _ _ _ _ _ _ _ _ _ _ _ _ _ _ _ _ _ _ _ _ _ _ _ _ _ _ _ _ _ _ _ _ _ _ _ _ _ _ _ _ _ _ _ _ _ _ _ _ _ _ _ _ _ _ _ _ _ _ _ _ _ _ _ _ _ _ _ _ _ _ _ _ _ _ _ _ _ _ _ _ _ _ _ _ _ _ _ _ _ _ _ _ _ _ _ _ _ _ _ _ _ _ _ _ _ _)
end Go.Proofs.YtemondlgcmpbbaaGreatDoor

/- Disk.Commit, where the device tells no error: what becomes of trees. -/
namespace Go.Proofs.YtemondlgcmpbbaaGreatDoor
open Go.RowKit

theorem FRep.restr {ok fp : Nat → Prop} {w : World} (hfp : ∀ z T cs, Blk w z T cs → Imm T → ¬ fp z) : ∀ {h : Nat} {t : Tr h} {b : Nat} {ds : List Nat}, FRep ok w h t b ds → FRep (fun z => ok z ∧ z < w.heap.size ∧ ¬ fp z) w h t b ds := by
  intro h
  induction h with
  | zero =>
    intro t b ds ⟨A1, c1, A2, c2, hn, hb, hr, hd⟩
    refine ⟨A1, c1, A2, c2, hn, ⟨hb, Blk.lt hn.node, hfp b _ _ hn.node immN⟩, fun h0 a ha => ?_, hd⟩
    obtain ⟨g, cur, e, hg⟩ := hn.ps.row_blk h0
    rw [ha] at e
    injection e with e
    exact ⟨hr h0 a ha, hn.ps.row_lt h0 a ha, hfp _ _ _ (e ▸ hg) immP⟩
  | succ h ih =>
    intro t b ds ⟨A1, c1, A2, c2, bs, dss, hn, hb, hr, hk, hd⟩
    refine ⟨A1, c1, A2, c2, bs, dss, hn, ⟨hb, Blk.lt hn.node, hfp b _ _ hn.node immN⟩, fun h0 a ha => ?_, hk.mono fun _ _ _ hk => ih hk, hd⟩
    obtain ⟨g, cur, e, hg⟩ := hn.ks.row_blk h0
    rw [ha] at e
    injection e with e
    exact ⟨hr h0 a ha, hn.ks.row_lt h0 a ha, hfp _ _ _ (e ▸ hg) immK⟩
theorem TreeV.restr {ok fp : Nat → Prop} {w : World} (hfp : ∀ z T cs, Blk w z T cs → Imm T → ¬ fp z) {t : Tree} {rp : Value} {ds : List Nat} (h : TreeV ok w t rp ds) : TreeV (fun z => ok z ∧ z < w.heap.size ∧ ¬ fp z) w t rp ds :=
  h.imp id fun ⟨h, n, b, e1, e2, e3⟩ => ⟨h, n, b, e1, e2, e3.restr hfp⟩
theorem TreeV.more {ok ok' : Nat → Prop} {w : World} {t : Tree} {rp : Value} {ds : List Nat} (h : TreeV ok w t rp ds) (hs : ∀ z, ok z → ok' z) : TreeV ok' w t rp ds := h.move (fun _ _ => rfl) hs
theorem TreeV.dirt {ok : Nat → Prop} {w : World} {t : Tree} {rp : Value} {ds : List Nat} (h : TreeV ok w t rp ds) : ∀ y ∈ ds, DirtyAt w y := by
  rcases h with ⟨_, _, rfl⟩ | ⟨h, n, b, _, _, e3⟩
  · intro y hy; cases hy
  · exact e3.dirt
instance : Inhabited NdS := ⟨⟨0, 0, false, .nilIface, .nilIface⟩⟩

/-- The blocks that Commit gives. -/
def comXs (R : List (Tree × Value × List Nat)) (T : Tree) (n k : Nat) : List Nat := (fr (usedL R T) n 2).take k
/-- What Commit comes to. -/
structure ComOut (w : World) (K b g base n : Nat) (cv : Value) (m : Nums) (bytes : List UInt8) (cache : List (Nat × List UInt8)) (dk : Nat) (hd : Hd) (T : Tree) (rp : Value) (ds : List Nat) (R : List (Tree × Value × List Nat)) (w' : World) : Prop where
  disk : Dk w' (K + ds.length + 3) b g base n (.slice none 0 0) (wrotes m ds.length).tick.wrote.tick (dset (dflush bytes (cache ++ wlist (T.lay (hd.gen + 1) true (comXs R T n ds.length)))) (1 - hd.slot, pad 128 (headB (hd.gen + 1) (T.lay (hd.gen + 1) true (comXs R T n ds.length)).rblk (T.lay (hd.gen + 1) true (comXs R T n ds.length)).rgen))) []
  dkb : Blk w' dk 151 (#[dev b] ++ headV (1 - hd.slot) (hd.gen + 1) (T.lay (hd.gen + 1) true (comXs R T n ds.length)).rblk (T.lay (hd.gen + 1) true (comXs R T n ds.length)).rgen)
  tree : TreeV (fun z => z < w.heap.size) w' (T.lay (hd.gen + 1) false (comXs R T n ds.length)) rp []
  others : ∀ T0 rp0, TreeV (fun z => z < w.heap.size) w T0 rp0 [] → TreeV (fun z => z < w.heap.size) w' T0 rp0 []
  only : Only (fun y => dfp b g cv y ∨ y = dk ∨ y ∈ ds) w w'

theorem commit_any (K b g base n : Nat) (cv : Value) (m : Nums) (bytes : List UInt8) (cache : List (Nat × List UInt8)) (dk : Nat) (hd : Hd) (T : Tree) (rp : Value) (ds : List Nat) (A : Option Addr) (c : Nat) (R : List (Tree × Value × List Nat)) (w : World) (h : ComIn w K b g base n cv m bytes cache dk hd T rp ds A c R) :
    Calls Tryz.prog 60 #[.pointer (some ⟨dk, 0, none⟩), treeV rp T.keys, .slice A R.length c] w fun e w' => e = .returned .nilIface ∧ ComOut w K b g base n cv m bytes cache dk hd T rp ds R w' := by
  obtain ⟨q0, rfl⟩ := h.tree.ptr
  obtain ⟨s, hs⟩ := Go.Deep.choose_lt (α := NdS) (n := ds.length) (p := fun j x => ∀ hj : j < ds.length, NdAt w ds[j] x ∧ x.dirty = true) (fun j hj => by
    obtain ⟨blk, gen, pv, kv, hn⟩ := h.tree.dirt ds[j] (List.getElem_mem hj)
    exact ⟨⟨blk, gen, true, pv, kv⟩, fun _ => ⟨hn, rfl⟩⟩)
  have hs1 : ∀ j (hj : j < ds.length), NdAt w ds[j] (s j) := fun j hj => (hs j hj hj).1
  have hs2 : ∀ j, j < ds.length → (s j).dirty = true := fun j hj => (hs j hj hj).2
  refine (commit0 K b g base n cv m bytes cache dk hd T q0 ds A c R w h s hs1 hs2 _ _ rfl rfl _ rfl).mono ?_
  rintro e w' ⟨he, hdk, hdb, hn, ho⟩
  have hroom := h.room
  have hxl : ds.map (fun y => (fr (usedL R T) n 2).getD (ds.idxOf y) 0) = comXs R T n ds.length := asg_map h.nd hroom
  have hfp : ∀ z T cs, Blk w z T cs → Imm T → ¬ (dfp b g cv z ∨ z = dk) := fun z T' cs hz hT e => by
    have hne : T' ≠ 103 ∧ T' ≠ 111 ∧ T' ≠ 113 ∧ T' ≠ 151 := ⟨fun e => notImm (X := 103) (by decide) (by decide) (by decide) (e ▸ hT), fun e => notImm (X := 111) (by decide) (by decide) (by decide) (e ▸ hT), fun e => notImm (X := 113) (by decide) (by decide) (by decide) (e ▸ hT), fun e => notImm (X := 151) (by decide) (by decide) (by decide) (e ▸ hT)⟩
    rcases e with e | e
    · exact h.disk.ne hz hne.1 hne.2.1 hne.2.2.1 e
    · exact Blk.ne_ hz h.dkb hne.2.2.2 e
  have hlaid : Laid (fun z => z < w.heap.size ∧ z < w.heap.size ∧ ¬ (dfp b g cv z ∨ z = dk)) ds (fun y => (fr (usedL R T) n 2).getD (ds.idxOf y) 0) (hd.gen + 1) false w w' := by
    refine ⟨h.tree.dirt, fun y hy blk gen pv kv hny => ?_, fun y hok hnot hl => ?_⟩
    · obtain ⟨j, hj, rfl⟩ := List.getElem_of_mem hy
      have e := Blk.same (hs1 j hj) hny
      simp only [Array.mk.injEq, List.cons.injEq, Value.int.injEq, true_and, and_true] at e
      have hi : ds.idxOf ds[j] = j := h.nd.idxOf_getElem j hj
      have := hn j hj
      unfold NdAt NdS.at_ at this
      simp only at this
      simp only [hi]
      rw [← e.2.2.2.1, ← e.2.2.2.2]
      exact this
    · refine ho.block y hl (fun e => ?_)
      rcases e with e | e | e | e
      · exact hok.2.2 (.inl e)
      · exact hok.2.2 (.inr e)
      · exact hnot e
      · omega
  refine ⟨he, hdk, hdb, ?_, fun T0 rp0 h0 => ((h0.restr hfp).laid0 hlaid).more fun z hz => hz.1, ?_⟩
  · have := (h.tree.restr hfp).lay hlaid (fun y hy => hy)
    rw [hxl] at this
    exact this.more fun z hz => hz.1
  · exact ho.mono fun x hx hxx => by
      rcases hxx with h | h | h | h
      · exact .inl h
      · exact .inr (.inl h)
      · exact .inr (.inr h)
      · omega
end Go.Proofs.YtemondlgcmpbbaaGreatDoor

/- Walks: disk.Disk.Room. -/
namespace Go.Proofs.YtemondlgcmpbbaaGreatDoor
open Go.RowKit

/-- For how many keys there is room. -/
def roomN (n : Nat) : Int := (((n : Int) - 12)).tdiv 3

set_option maxRecDepth 100000 in
theorem room_any (dk b n c : Nat) (hd : Hd) (A : Option Addr) (cv : Value) (m : Nums) (w : World) (hk : Blk w dk 151 (#[dev b] ++ hd.cells)) (h : DkAt w b (.slice A n c) cv m) (hn : n ≤ 1000) :
    Calls Tryz.prog 57 #[.pointer (some ⟨dk, 0, none⟩)] w fun e w' => e = .returned (.int .i64 (roomN n)) ∧ w = w' := by
  have HB := hide (blocks_any b n c A cv m w h)
  have mB := m_blocks
  have c0 : w.cell? ⟨dk, 0, none⟩ = some (.iface 23 (.pointer (some ⟨b, 0, none⟩))) := cellOf hk 0 (by rw [Array.getElem?_append_left (by simp)]; rfl)
  have k1 : IntKind.i64.wrap ((n : Int) - 12) = (n : Int) - 12 := by rw [IntKind.wrap_i64]; omega
  have k2 : IntKind.i64.wrap (((n : Int) - 12).tdiv 3) = ((n : Int) - 12).tdiv 3 := by
    have h1 : -12 ≤ ((n : Int) - 12).tdiv 3 ∧ ((n : Int) - 12).tdiv 3 ≤ 1000 := by
      by_cases h0 : (0 : Int) ≤ (n : Int) - 12
      · rw [Int.tdiv_eq_ediv_of_nonneg h0]; omega
      · have e : (n : Int) - 12 = -(12 - (n : Int)) := by omega
        rw [e, Int.neg_tdiv, Int.tdiv_eq_ediv_of_nonneg (by omega)]; omega
    rw [IntKind.wrap_i64]; omega
  clear h hk
  go_enter Tryz.func57, Tryz.ntmps57
  go_wp2_with (go_at_call 237; refine HB.out.mono ?_; rintro e w' ⟨rfl, rfl⟩)
  go_ret
  exact ⟨rfl, rfl⟩
end Go.Proofs.YtemondlgcmpbbaaGreatDoor

/- Walks: Txn.Delete, Txn.Put. -/
namespace Go.Proofs.YtemondlgcmpbbaaGreatDoor
open Go.RowKit

def opDelete : ByteArray := ⟨#[100, 101, 108, 101, 116, 101]⟩
def opPut : ByteArray := ⟨#[112, 117, 116]⟩

/-- A transaction behind a change: its tree is another. -/
def ChangedTo (ok : Nat → Prop) (w w' : World) (t x : Nat) (T' : Tree) (ds : List Nat) (write done : Bool) (stamp : Int) : Prop :=
  ∃ rp' ds', TxAt w' t ⟨x, rp', T'.keys, write, done, stamp + 1⟩ ∧ TreeV (up ok w.heap.size) w' T' rp' ds' ∧ ds'.Nodup ∧ ∀ y ∈ ds', y ∈ ds ∨ w.heap.size ≤ y

theorem up_le {ok : Nat → Prop} {B B' : Nat} (h : B ≤ B') : ∀ z, up ok B' z → up ok B z := fun _ hz => hz.imp id fun h' => Nat.le_trans h h'

set_option maxRecDepth 100000 in
set_option maxHeartbeats 1600000 in
theorem xdelete_any {ok : Nat → Prop} (t x : Nat) (rp : Value) (T : Tree) (ds : List Nat) (write done : Bool) (stamp : Int) (s : DbS) (k : Str) (w : World) (hT : TxAt w t ⟨x, rp, T.keys, write, done, stamp⟩) (hD : DbAt w x s)
    (hV : TreeV ok w T rp ds) (hnd : ds.Nodup) (hR : TR T) (hp : T.pairs.length ≤ 150) (hk : k.size ≤ 9223372036854775807) (hs0 : 0 ≤ stamp) (hs1 : stamp ≤ 1000000000) :
    Calls Tryz.prog 23 #[.pointer (some ⟨t, 0, none⟩), .string k] w fun e w' => ∃ v, e = .returned v ∧ AnsV w' w.heap.size v opDelete (mayK s.poi done true write k) ∧ DbAt w' x s ∧
      (mayK s.poi done true write k ≠ 0 → TxAt w' t ⟨x, rp, T.keys, write, done, stamp⟩ ∧ Only (· = x) w w') ∧ (mayK s.poi done true write k = 0 → ChangedTo ok w w' t x (T.delete k) ds write done stamp) ∧ Only (fun y => y = t ∨ y = x) w w' := by
  have t0 : w.cell? ⟨t, 0, none⟩ = some (.pointer (some ⟨x, 0, none⟩)) := cellOf hT 0 rfl
  have htx : t ≠ x := Blk.ne_ hT hD (by decide)
  obtain ⟨q, rfl⟩ := hV.ptr
  have HL := hide (lock_at hD rfl)
  have HT := hide hT
  have HV := hide (fun W (ho : Only (· = x) w W) => hV.at1 hD (notImm (by decide) (by decide) (by decide)) ho)
  have HXL := hide hD.lt
  have HRT := hide hR
  have HP := hide hp
  have HND := hide hnd
  clear hT hD hV hR hp hnd
  have e1 : IntKind.i64.wrap (stamp + 1) = stamp + 1 := by rw [IntKind.wrap_i64]; omega
  obtain ⟨c, hc⟩ : ∃ c, c = mayK s.poi done true write k := ⟨_, rfl⟩
  rw [← hc]
  have HC := hide hc
  clear hc
  by_cases h0 : c = 0
  · subst h0
    go_enter_defers Tryz.func23, Tryz.ntmps23
    go_wp2_with (first
      | (go_at_call 51; go_loud (
         refine HL.out.mono ?_; rintro e w1 ⟨rfl, hb1, ho1, hs1⟩
         have hT1 := HT.out.only ho1 htx
         have k0 : w1.cell? ⟨t, 0, none⟩ = some (.pointer (some ⟨x, 0, none⟩)) := cellOf hT1 0 rfl
         have HM := hide (may1_any t x _ s 1 opDelete k true w1.heap.size (w1.alloc (.cells #[.string k] 9)) (hT1.alloc _) (hb1.alloc _) rfl (cellOf (Blk.new w1 9 #[.string k]) 0 rfl) hk)
         rw [← HC.out] at HM
         have k1 := fun o => cellA o (cellOf hT1 1 rfl)
         have k2 := fun o => cellA o (cellOf hT1 2 rfl)
         have HG := hide (tdelete_any T (.pointer q) ds k (w1.alloc (.cells #[.string k] 9)) ((HV.out w1 ho1).below ((Below.refl _ _).alloc (Nat.le_refl _) _) (fun _ h => h)) HND.out HRT.out HP.out)
         unfold treeV at HG
         have HT1 := hide hT1
         have HB1 := hide hb1
         have HO1 := hide ho1
         have HS1 := hide hs1
         clear hT1 hb1 ho1 hs1))
      | (go_at_call 54; go_loud (
         unfold opDelete at HM
         refine HM.out.mono ?_; rintro e w' ⟨v, rfl, ha⟩
         obtain ⟨rfl, rfl⟩ : v = .nilIface ∧ w1.alloc (.cells #[.string k] 9) = w' := by
           rcases ha.2 with h | h
           · exact ⟨h.2.1, h.2.2⟩
           · exact absurd rfl h.1
         clear ha))
      | (go_at_call 55; go_loud (
         refine HG.out.mono ?_; rintro e w2 ⟨rp', ds', rfl, hv2, hnd2, hsub2, hb2⟩
         obtain ⟨q', rfl⟩ := hv2.ptr
         unfold treeV
         have hT2 := (HT1.out.alloc (.cells #[.string k] 9)).below hb2 (HT1.out.alloc _).lt
         have m1 : w2.cell? ⟨t, 1, none⟩ = some (.pointer q) := cellOf hT2 1 rfl
         have m2 : w2.cell? ⟨t, 2, none⟩ = some (.int .i64 T.keys) := cellOf hT2 2 rfl
         have m5 : w2.cell? ⟨t, 5, none⟩ = some (.int .i64 stamp) := cellOf hT2 5 rfl
         have z1 : w2.frozen? ⟨t, 1, none⟩ = false := hT2.frozen 1
         have z2 : w2.frozen? ⟨t, 2, none⟩ = false := hT2.frozen 2
         have z5 : w2.frozen? ⟨t, 5, none⟩ = false := hT2.frozen 5
         have HT2 := hide hT2
         have HV2 := hide hv2
         have HB2 := hide hb2
         clear hT2 hv2 hb2)))
    obtain ⟨W3, hW3⟩ : ∃ W3, W3 = ((w2.setCell ⟨t, 1, none⟩ (.pointer q')).setCell ⟨t, 2, none⟩ (.int .i64 (T.delete k).keys)).setCell ⟨t, 5, none⟩ (.int .i64 (stamp + 1)) := ⟨_, rfl⟩
    rw [← hW3]
    have hO3 : Only (· = t) w2 W3 := by rw [hW3]; exact ((Only.set1 _ _ _ _).set2 _ _).set2 _ _
    have hT3 : TxAt W3 t ⟨x, .pointer q', (T.delete k).keys, write, done, stamp + 1⟩ := by rw [hW3]; exact ((Blk.set_ HT2.out 1 _).set_ 2 _).set_ 5 _
    have hD2 : Blk w2 x 91 (DbCells s 1) := (HB1.out.alloc _).below HB2.out (HB1.out.alloc _).lt
    have hD3 : Blk W3 x 91 (DbCells s 1) := hD2.only hO3 (fun e => htx e.symm)
    have hV3 : TreeV (up ok (w1.alloc (.cells #[.string k] 9)).heap.size) W3 (T.delete k) (.pointer q') ds' := HV2.out.at1 HT2.out (notImm (by decide) (by decide) (by decide)) hO3
    refine leaves_cons (f := 52) (args := #[.pointer (some ⟨x, 0, none⟩)]) (by simp) (by simp [go_sem]) ?_
    refine (unlock_at .returning hD3 rfl).mono ?_
    rintro e u' w4 ⟨rfl, rfl, hb4, ho4, hs4⟩
    have hz1 : (w1.alloc (.cells #[.string k] 9)).heap.size = w1.heap.size + 1 := World.size_alloc _ _
    have hs1 := HS1.out
    refine ⟨.nilIface, by simp [results, Tryz.results23, go_sem], .nilIface, rfl, .inl ⟨rfl, rfl⟩, hb4, fun h => absurd rfl h, fun _ => ⟨.pointer q', ds', Blk.only hT3 ho4 htx, ?_, hnd2, ?_⟩, ?_⟩
    · exact (hV3.at1 hD3 (notImm (by decide) (by decide) (by decide)) ho4).move (fun _ _ => rfl) (up_le (by omega))
    · intro y hy
      rcases hsub2 y hy with h | h
      · exact .inl h
      · exact .inr (by omega)
    · exact ((((HO1.out.mono fun _ _ h => .inr h).alloc _).below HB2.out).trans (hO3.mono fun _ _ h => .inl h)).trans (ho4.mono fun _ _ h => .inr h)
  · go_enter_defers Tryz.func23, Tryz.ntmps23
    go_wp2_with (first
      | (go_at_call 51; go_loud (
         refine HL.out.mono ?_; rintro e w1 ⟨rfl, hb1, ho1, hs1⟩
         have hT1 := HT.out.only ho1 htx
         have k0 : w1.cell? ⟨t, 0, none⟩ = some (.pointer (some ⟨x, 0, none⟩)) := cellOf hT1 0 rfl
         have HM := hide (may1_any t x _ s 1 opDelete k true w1.heap.size (w1.alloc (.cells #[.string k] 9)) (hT1.alloc _) (hb1.alloc _) rfl (cellOf (Blk.new w1 9 #[.string k]) 0 rfl) hk)
         rw [← HC.out] at HM
         have HT1 := hide hT1
         have HB1 := hide hb1
         have HO1 := hide ho1
         have HS1 := hide hs1
         clear hT1 hb1 ho1 hs1))
      | (go_at_call 54; go_loud (
         unfold opDelete at HM
         refine HM.out.mono ?_; rintro e w2 ⟨v, rfl, ha⟩
         have hbl := ha.1
         rcases ha.2 with h | ⟨-, f, rfl, hf, hff⟩
         · exact absurd h.1 h0
         unfold faultV)))
    have hD2 : Blk w2 x 91 (DbCells s 1) := (HB1.out.alloc _).below hbl (HB1.out.alloc _).lt
    refine leaves_cons (f := 52) (args := #[.pointer (some ⟨x, 0, none⟩)]) (by simp) (by simp [go_sem]) ?_
    refine (unlock_at .returning hD2 rfl).mono ?_
    rintro e u' w4 ⟨rfl, rfl, hb4, ho4, hs4⟩
    have hOx : Only (· = x) w w4 := ((HO1.out.alloc _).below hbl).trans ho4
    refine ⟨faultV f, by unfold faultV; simp [results, Tryz.results23, go_sem], faultV f, rfl, .inr ⟨h0, f, rfl, ?_, ?_⟩, hb4, fun _ => ⟨Blk.only ((HT1.out.alloc _).below hbl (HT1.out.alloc _).lt) ho4 htx, hOx⟩, fun h => absurd h h0, hOx.mono fun _ _ h => .inr h⟩
    · have hx1 : x < w1.heap.size := HB1.out.lt
      refine Blk.only hf ho4 (fun e => ?_)
      simp at hff
      omega
    · have := HS1.out; simp at hff; omega
end Go.Proofs.YtemondlgcmpbbaaGreatDoor

/- Walks: Txn.Put, where nothing stands against it. -/
namespace Go.Proofs.YtemondlgcmpbbaaGreatDoor
open Go.RowKit

set_option maxRecDepth 100000 in
set_option maxHeartbeats 3200000 in
theorem xput_ok {ok : Nat → Prop} (t x : Nat) (rp : Value) (T : Tree) (ds : List Nat) (write done : Bool) (stamp : Int) (s : DbS) (k v : Str) (w : World) (hT : TxAt w t ⟨x, rp, T.keys, write, done, stamp⟩) (hD : DbAt w x s)
    (hV : TreeV ok w T rp ds) (hnd : ds.Nodup) (hR : TR T) (hp : T.pairs.length ≤ 150) (h1 : okKey k) (h2 : okVal v) (hs0 : 0 ≤ stamp) (hs1 : stamp ≤ 1000000000) (hm : mayK s.poi done true write k = 0)
    (b n c : Nat) (hd : Hd) (A : Option Addr) (cv : Value) (m : Nums) (hdk : Blk w s.dk 151 (#[dev b] ++ hd.cells)) (hdev : DkAt w b (.slice A n c) cv m) (hn : n ≤ 1000) (hroom : (T.get k).isSome = true ∨ (T.keys : Int) < roomN n) :
    Calls Tryz.prog 24 #[.pointer (some ⟨t, 0, none⟩), .string k, .string v] w fun e w' => e = .returned .nilIface ∧ DbAt w' x s ∧ ChangedTo ok w w' t x (T.put k v) ds write done stamp ∧ Only (fun y => y = t ∨ y = x) w w' := by
  have t0 : w.cell? ⟨t, 0, none⟩ = some (.pointer (some ⟨x, 0, none⟩)) := cellOf hT 0 rfl
  have htx : t ≠ x := Blk.ne_ hT hD (by decide)
  have hkb := h1
  unfold okKey at hkb
  have hk : k.size ≤ 9223372036854775807 := by omega
  have hvb : v.size ≤ 12 := h2
  have hvi : ¬ (12 : Int) < (v.size : Int) := by omega
  obtain ⟨q, rfl⟩ := hV.ptr
  have hdx : s.dk ≠ x := Blk.ne_ hdk hD (by decide)
  have hbx : b ≠ x := Blk.ne_ hdev hD (by decide)
  have HL := hide (lock_at hD rfl)
  have HT := hide hT
  have HV := hide (fun W (ho : Only (· = x) w W) => hV.at1 hD (notImm (by decide) (by decide) (by decide)) ho)
  have HXL := hide hD.lt
  have HRT := hide hR
  have HP := hide hp
  have HND := hide hnd
  have HM0 := hide hm
  have HDK := hide hdk
  have HDEV := hide hdev
  have HRM := hide hroom
  have H1 := hide h1
  have H2 := hide h2
  clear hT hD hV hR hp hnd hm hdk hdev hroom hkb h1 h2
  have e1 : IntKind.i64.wrap (stamp + 1) = stamp + 1 := by rw [IntKind.wrap_i64]; omega
  go_enter_defers Tryz.func24, Tryz.ntmps24
  go_upto_region 9 with (first
    | (go_at_call 51; go_loud (
       refine HL.out.mono ?_; rintro e w1 ⟨rfl, hb1, ho1, hs1⟩
       have hT1 := HT.out.only ho1 htx
       have k0 : w1.cell? ⟨t, 0, none⟩ = some (.pointer (some ⟨x, 0, none⟩)) := cellOf hT1 0 rfl
       have HM := hide (may1_any t x _ s 1 opPut k true w1.heap.size (w1.alloc (.cells #[.string k] 9)) (hT1.alloc _) (hb1.alloc _) rfl (cellOf (Blk.new w1 9 #[.string k]) 0 rfl) hk)
       rw [HM0.out] at HM
       have k1 := fun o => cellA o (cellOf hT1 1 rfl)
       have k2 := fun o => cellA o (cellOf hT1 2 rfl)
       have HVA := hide ((HV.out w1 ho1).below ((Below.refl _ _).alloc (Nat.le_refl _) (.cells #[.string k] 9)) (fun _ h => h))
       have HG := hide (get_any T (.pointer q) ds k (w1.alloc (.cells #[.string k] 9)) HVA.out HRT.out HP.out)
       unfold treeV getV at HG
       have HT1 := hide hT1
       have HB1 := hide hb1
       have HO1 := hide ho1
       have HS1 := hide hs1
       clear hT1 hb1 ho1 hs1))
    | (go_at_call 54; go_loud (
       unfold opPut at HM
       refine HM.out.mono ?_; rintro e w' ⟨v, rfl, ha⟩
       obtain ⟨rfl, rfl⟩ : v = .nilIface ∧ w1.alloc (.cells #[.string k] 9) = w' := by
         rcases ha.2 with h | h
         · exact ⟨h.2.1, h.2.2⟩
         · exact absurd rfl h.1
       clear ha))
    | (go_at_call 56; go_loud (
       refine HG.out.mono ?_; rintro e w2 ⟨rfl, hb2⟩
       have HB2 := hide hb2
       clear hb2)))
  have hbw2 : Below w1.heap.size w1 w2 := ((Below.refl _ _).alloc (Nat.le_refl _) _).trans (HB2.out.mono (by simp))
  have hT2 : TxAt w2 t ⟨x, .pointer q, T.keys, write, done, stamp⟩ := Blk.below HT1.out hbw2 (Blk.lt HT1.out)
  have hD2 : Blk w2 x 91 (DbCells s 1) := HB1.out.below hbw2 HB1.out.lt
  have hV2 : TreeV ok w2 T (.pointer q) ds := HVA.out.below HB2.out (fun _ h => h)
  have hdk2 : Blk w2 s.dk 151 (#[dev b] ++ hd.cells) := (HDK.out.only HO1.out hdx).below hbw2 (HDK.out.only HO1.out hdx).lt
  have hdev2 : DkAt w2 b (.slice A n c) cv m := Blk.below (Blk.only HDEV.out HO1.out hbx) hbw2 (Blk.only HDEV.out HO1.out hbx).lt
  have m0 : w2.cell? ⟨t, 0, none⟩ = some (.pointer (some ⟨x, 0, none⟩)) := cellOf hT2 0 rfl
  have m1 : w2.cell? ⟨t, 1, none⟩ = some (.pointer q) := cellOf hT2 1 rfl
  have m2 : w2.cell? ⟨t, 2, none⟩ = some (.int .i64 T.keys) := cellOf hT2 2 rfl
  have m3 : w2.cell? ⟨x, 2, none⟩ = some (.pointer (some ⟨s.dk, 0, none⟩)) := cellOf hD2 2 rfl
  have RM := hide (fun nq => room_any s.dk b n c hd A cv m (w2.drewN nq) (show Blk (w2.drewN nq) _ _ _ from hdk2) (show DkAt (w2.drewN nq) _ _ _ _ from hdev2) hn)
  have HT2 := hide hT2
  have HD2 := hide hD2
  have HV2 := hide hV2
  clear hT2 hD2 hV2 hdk2 hdev2 hbw2 k1 k2 k0
  obtain ⟨th, hth⟩ : ∃ th, th = (T.get k).isSome := ⟨_, rfl⟩
  rw [← hth]
  have HTH := hide hth
  clear hth
  go_cut [60] from 43 to 60 (fun s60 wx => s60 = .bool false ∧ ∃ nq, wx = w2.drewN nq)
  case first =>
    cases th with
    | true =>
      go_quiet (fail)
      go_wp2
      go_meet
      exact ⟨rfl, _, rfl⟩
    | false =>
      have hge : ¬ roomN n ≤ (T.keys : Int) := by
        rcases HRM.out with h | h
        · rw [← HTH.out] at h; cases h
        · omega
      go_quiet (first | (go_at_call 57; exact quiet_same (RM.out _)))
      go_wp2
      go_meet
      exact ⟨rfl, _, rfl⟩
  case rest =>
    obtain ⟨rfl, nq, rfl⟩ := hcut
    have PUT := hide (tput_any T (.pointer q) ds k v (w2.drewN nq) (HV2.out.below (below_drewN (Below.refl _ _) nq) (fun _ h => h)) HND.out HRT.out HP.out H1.out H2.out)
    unfold treeV at PUT
    go_wp2_with (go_at_call 58; go_loud (
      refine PUT.out.mono ?_; rintro e w3 ⟨rp', ds', rfl, hv3, hnd3, hsub3, hb3⟩
      obtain ⟨q', rfl⟩ := hv3.ptr
      unfold treeV
      have hb3' : Below w2.heap.size w2 w3 := (below_drewN (Below.refl _ _) nq).trans hb3
      have hT3 : TxAt w3 t ⟨x, .pointer q, T.keys, write, done, stamp⟩ := Blk.below HT2.out hb3' (Blk.lt HT2.out)
      have n1 : w3.cell? ⟨t, 1, none⟩ = some (.pointer q) := cellOf hT3 1 rfl
      have n2 : w3.cell? ⟨t, 2, none⟩ = some (.int .i64 T.keys) := cellOf hT3 2 rfl
      have n5 : w3.cell? ⟨t, 5, none⟩ = some (.int .i64 stamp) := cellOf hT3 5 rfl
      have z1 : w3.frozen? ⟨t, 1, none⟩ = false := hT3.frozen 1
      have z2 : w3.frozen? ⟨t, 2, none⟩ = false := hT3.frozen 2
      have z5 : w3.frozen? ⟨t, 5, none⟩ = false := hT3.frozen 5
      have HT3 := hide hT3
      have HV3 := hide hv3
      have HB3 := hide hb3'
      clear hT3 hv3 hb3 hb3'))
    obtain ⟨W4, hW4⟩ : ∃ W4, W4 = ((w3.setCell ⟨t, 1, none⟩ (.pointer q')).setCell ⟨t, 2, none⟩ (.int .i64 (T.put k v).keys)).setCell ⟨t, 5, none⟩ (.int .i64 (stamp + 1)) := ⟨_, rfl⟩
    rw [← hW4]
    have hO4 : Only (· = t) w3 W4 := by rw [hW4]; exact ((Only.set1 _ _ _ _).set2 _ _).set2 _ _
    have hT4 : TxAt W4 t ⟨x, .pointer q', (T.put k v).keys, write, done, stamp + 1⟩ := by rw [hW4]; exact ((Blk.set_ HT3.out 1 _).set_ 2 _).set_ 5 _
    have hD3 : Blk w3 x 91 (DbCells s 1) := HD2.out.below HB3.out HD2.out.lt
    have hD4 : Blk W4 x 91 (DbCells s 1) := hD3.only hO4 (fun e => htx e.symm)
    have hV4 : TreeV (up ok w2.heap.size) W4 (T.put k v) (.pointer q') ds' := HV3.out.at1 HT3.out (notImm (by decide) (by decide) (by decide)) hO4
    refine leaves_cons (f := 52) (args := #[.pointer (some ⟨x, 0, none⟩)]) (by simp) (by simp [go_sem]) ?_
    refine (unlock_at .returning hD4 rfl).mono ?_
    rintro e u' w5 ⟨rfl, rfl, hb5, ho5, hs5⟩
    have hz2 : w1.heap.size + 1 ≤ w2.heap.size := by have := HB2.out.size; simpa using this
    have hs1 := HS1.out
    refine ⟨.nilIface, by simp [results, Tryz.results24, go_sem], rfl, hb5, ⟨.pointer q', ds', Blk.only hT4 ho5 htx, ?_, hnd3, ?_⟩, ?_⟩
    · exact (hV4.at1 hD4 (notImm (by decide) (by decide) (by decide)) ho5).move (fun _ _ => rfl) (up_le (by omega))
    · intro y hy
      rcases hsub3 y hy with h | h
      · exact .inl h
      · have h : w2.heap.size ≤ y := h
        exact .inr (by omega)
    · exact (((((HO1.out.mono fun _ _ h => .inr h).alloc _).below HB2.out).below HB3.out).trans (hO4.mono fun _ _ h => .inl h)).trans (ho5.mono fun _ _ h => .inr h)
end Go.Proofs.YtemondlgcmpbbaaGreatDoor
