/- Ki Nl Kj: merged. -/
import Derived.Test.YtemondlgcmpbbaaGreatDoorMC37
import Derived.Deep.CutBlock
/- Walks: Disk.Commit: the blocks of the dirty nodes are written. -/
namespace Go.Proofs.YtemondlgcmpbbaaGreatDoor
open Go.RowKit

theorem nbody_len (h : Nat) (n : Tr h) : (nbody h n).length = 12 + Tr.size h n := by
  cases h with
  | zero => show (nhd _ _ _ _ ++ _).length = _; rw [List.length_append, nhd_len, pbys_len]; rfl
  | succ h => show (nhd _ _ _ _ ++ _).length = _; rw [List.length_append, nhd_len, kbys_len (Tr.blk h) (Tr.gen h)]; rfl
theorem nby_len {h : Nat} {n : Tr h} (hs : Tr.size h n ≤ 116) : (nby h n).length = 128 := by
  unfold nby sealN
  have := pad_length 128 (nbody h n) (by rw [nbody_len]; omega)
  simp only [List.length_append, List.length_drop, this, le4_length]
theorem pad_full {l : List UInt8} (h : l.length = 128) : pad 128 l = l := by unfold pad; rw [h]; simp
/-- What is written of a tree: its dirty nodes. -/
def wlist (t : Tree) : List (Nat × List UInt8) := t.dlist.map fun x => (Tr.blk x.1 x.2, nby x.1 x.2)
def wrotes (m : Nums) : Nat → Nums
  | 0 => m
  | k + 1 => (wrotes m k).wrote
theorem wrotes_calm {m : Nums} (h : m.calm) : ∀ k, (wrotes m k).calm
  | 0 => h
  | k + 1 => (wrotes_calm h k).wrote
def Tree.rblk (t : Tree) : Nat := match t.root with | none => 0 | some r => Tr.blk r.1 r.2
def Tree.rgen (t : Tree) : Nat := match t.root with | none => 0 | some r => Tr.gen r.1 r.2

/-- What holds of each node that is written. -/
def OutQ (n : Nat) (x : (h : Nat) × Tr h) : Prop := Tr.size x.1 x.2 ≤ 116 ∧ (x.1 = 0 ∨ 1 ≤ Tr.len x.1 x.2) ∧ NS SmallN x.1 x.2 ∧ Tr.blk x.1 x.2 < n

/-- What is known when the blocks are given. -/
structure ComGiv (W : World) (H K b g base n : Nat) (cv : Value) (m : Nums) (bytes : List UInt8) (cache : List (Nat × List UInt8)) (dk : Nat) (hd : Hd) (ds : List Nat) (s : Nat → NdS) (T1 : Tree) (q0 : Option Addr) : Prop where
  mid : ComMid W H K b g base n cv m bytes cache dk hd ds s
  tree : TreeV (fun z => z < H) W T1 (.pointer q0) ds
  out : ∀ x ∈ T1.dlist, OutQ n x
  num : K + ds.length + 5 < edge
  room : cache.length + ds.length < 90000

theorem vd_take {α β : Type} (f : α → β) {l : List α} {k : Nat} (h : k < l.length) : (l.map f).take (k + 1) = (l.map f).take k ++ [f l[k]] := by
  rw [List.take_add_one, List.getElem?_map, List.getElem?_eq_getElem h]; rfl
def C9Rel (W : World) (K b g base n : Nat) (cv : Value) (m : Nums) (bytes : List UInt8) (cache WL : List (Nat × List UInt8)) (N : Nat) (s : Value) (wr : World) : Prop :=
  ∃ (k : Nat) (cv' : Value), k ≤ N ∧ s = .int .i64 k ∧ Dk wr (K + k) b g base n cv' (wrotes m k) bytes (cache ++ WL.take k) ∧ Only (dfp b g cv) W wr ∧ ∀ x, dfp b g cv' x → dfp b g cv x ∨ W.heap.size ≤ x

theorem ComMid.dfp {W wr : World} {H K b g base n : Nat} {cv : Value} {m : Nums} {bytes : List UInt8} {cache : List (Nat × List UInt8)} {dk : Nat} {hd : Hd} {ds : List Nat} {s : Nat → NdS} (h : ComMid W H K b g base n cv m bytes cache dk hd ds s) (ho : Only (Proofs.YtemondlgcmpbbaaGreatDoor.dfp b g cv) W wr)
    {K' : Nat} {cv' : Value} {m' : Nums} {cache' : List (Nat × List UInt8)} (hd' : Dk wr K' b g base n cv' m' bytes cache') (hc : m'.calm) (hn : K' + 5 < edge) : ComMid wr H K' b g base n cv' m' bytes cache' dk hd ds s := by
  have hk : ∀ {y T cs}, Blk W y T cs → T ≠ 103 → T ≠ 111 → T ≠ 113 → Blk wr y T cs := fun hy a1 a2 a3 => hy.only ho (h.disk.ne hy a1 a2 a3)
  obtain ⟨v, hv, hown⟩ := h.dirt
  exact ⟨hd', hc, hk h.dkb (by decide) (by decide) (by decide), hk h.e6 (by decide) (by decide) (by decide), ⟨v, hk hv (by decide) (by decide) (by decide), ownN_only hown ho fun y cs hy => h.disk.ne hy (by decide) (by decide) (by decide)⟩,
    fun j hj => hk (h.nodes j hj) (by decide) (by decide) (by decide), h.nd, h.low, h.dkl, h.few, h.size, hn, Nat.lt_of_lt_of_le h.H_ ho.size⟩

set_option maxRecDepth 100000 in
set_option maxHeartbeats 6400000 in
theorem commit9 (F : Nat → Prop) (H K b g base n : Nat) (cv : Value) (m : Nums) (bytes : List UInt8) (cache : List (Nat × List UInt8)) (dk : Nat) (hd : Hd) (ds : List Nat) (s : Nat → NdS) (T1 : Tree) (sl gn : Nat) (q0 : Option Addr) (keys : Int) (W₀ W : World) (hF : ∀ x, dfp b g cv x → F x ∨ H ≤ x) (hW : Only (fun y => F y ∨ y = dk ∨ y ∈ ds ∨ H ≤ y) W₀ W) (h : ComGiv W H K b g base n cv m bytes cache dk hd ds s T1 q0)
    (h4 : Blk W H 88 #[.pointer q0, .int .i64 keys]) (h7 : Blk W (H + 1 + 1) 149 (headV sl gn 0 0)) (hsl : sl < 2) (hgn : gn < 4294967296) (hrb : T1.rblk < 4294967296) (hrg : T1.rgen < 4294967296)
    (u1 u2 u3 u5 u10 u11 u12 u13 u14 u15 u16 u17 u18 u19 u20 u21 u22 u23 u24 u25 u26 u27 u28 u29 u30 u31 u32 u33 u34 u35 u36 u37 u38 u39 u40 u41 u42 u43 u44 u45 u46 u47 u48 u49 u50 u51 u52 u53 u54 u55 u56 u57 u58 u59 u60 u61 u62 u63 u64 u65 u66 u67 u68 u69 u70 u71 u72 u73 u74 u75 u76 u77 u78 u79 u80 u81 u82 u83 u84 u85 u86 u87 u88 u89 u90 u91 u92 u93 u94 u95 u96 u97 u98 u99 u100 u101 u102 u103 u104 u105 u106 u107 u108 u109 u110 u111 u112 u113 u114 u115 u116 u117 u118 u119 u120 u121 u122 u123 u124 u125 u126 u127 u128 u129 u130 u131 u132 u133 u134 u135 u136 u137 u138 u139 : Value) :
    Code.wp Tryz.prog (comT 9) (bodyPostD Tryz.prog Tryz.f60 (ComEnd F H (K + ds.length) b g base n (wrotes m ds.length) bytes (cache ++ wlist T1) dk ds s sl gn T1.rblk T1.rgen W₀)) ⟨#[.pointer (some ⟨dk, 0, none⟩), u1, u2, u3, .pointer (some ⟨H, 0, none⟩), u5, .pointer (some ⟨H + 1, 0, none⟩), .pointer (some ⟨H + 1 + 1, 0, none⟩), .pointer (some ⟨H + 1 + 1 + 1 + 1, 0, none⟩), .pointer (some ⟨H + 1 + 1 + 1 + 1 + 1, 0, none⟩), u10, u11, u12, u13, u14, u15, u16, u17, u18, u19, u20, u21, u22, u23, u24, u25, u26, u27, u28, u29, u30, u31, u32, u33, u34, u35, u36, u37, u38, u39, u40, u41, u42, u43, u44, u45, u46, u47, u48, u49, u50, u51, u52, u53, u54, u55, u56, u57, u58, u59, u60, u61, u62, u63, u64, u65, u66, u67, u68, u69, u70, u71, u72, u73, u74, u75, u76, u77, u78, u79, u80, u81, u82, u83, u84, u85, u86, u87, u88, u89, u90, u91, u92, u93, u94, u95, u96, u97, u98, u99, u100, u101, u102, u103, u104, u105, u106, u107, u108, u109, u110, u111, u112, u113, u114, u115, u116, u117, u118, u119, u120, u121, u122, u123, u124, u125, u126, u127, u128, u129, u130, u131, u132, u133, u134, u135, u136, u137, u138, u139], [{ target := .fn (.func 90) #[.pointer (some ⟨H + 1, 0, none⟩), .pointer (some ⟨H + 1 + 1 + 1 + 1 + 1, 0, none⟩)], args := #[] }]⟩ W := by
  obtain ⟨v, hv, hown⟩ := h.mid.dirt
  obtain ⟨A, c, rfl, hform⟩ := ownN_form hown
  have x9 : W.cell? ⟨H + 1 + 1 + 1 + 1 + 1, 0, none⟩ = some (.slice A ds.length c) := cellOf hv 0 rfl
  have hc : ds.length ≤ c ∧ c ≤ maxLen := ⟨hform.1, hform.2.1⟩
  obtain ⟨hc1, hc2⟩ := hc
  unfold maxLen at hc2
  have hrow : ∀ wr, Only (dfp b g cv) W wr → ∀ k (hk : k < ds.length), ∃ g', A = some ⟨g', 0, none⟩ ∧ wr.cell? ⟨g', k, none⟩ = some (.pointer (some ⟨ds[k], 0, none⟩)) := by
    intro wr hr k hk
    cases hA : A with
    | none =>
      have := (hform.2.2.2 (by rw [hA]; rfl)).1
      omega
    | some a =>
      obtain ⟨e1, e2, e3, cur, e4, e5, e6⟩ := hform.2.2.1 a.block (by rw [hA]; rfl)
      rw [hA] at e3
      refine ⟨a.block, e3, ?_⟩
      rw [(hr.cell (p := ⟨a.block, k, none⟩) e2 (h.mid.disk.ne e4 (by decide) (by decide) (by decide))), e4.cell]
      have := congrArg (fun l => l[k]?) e6
      simp only [Nat.mul_one, List.getElem?_take, if_pos hk, List.getElem?_map, List.getElem?_eq_getElem hk, Option.map_some] at this
      rw [← Array.getElem?_toList]
      exact this
  have hlen : ds.length = T1.dlist.length := h.tree.dl.len
  have hwl : (wlist T1).length = ds.length := by unfold wlist; rw [List.length_map, hlen]
  have hds1 : ds.length ≤ 1000 := h.mid.few
  have HROW := hide hrow
  have H0 := hide h
  have H7 := hide h7
  have H4 := hide h4
  have HW := hide hW
  have HLEN := hide hlen
  have HWL := hide hwl
  clear h h7 hW h4 hv hown hform hrow hlen hwl
  conv => arg 2; whnf
  go_upto_block 6 with fail
  go_cut [16] from 91 to 107 (fun s16 wx => ∃ cv', Dk wx (K + ds.length) b g base n cv' (wrotes m ds.length) bytes (cache ++ wlist T1) ∧ Only (dfp b g cv) W wx ∧ ∀ x, dfp b g cv' x → dfp b g cv x ∨ W.heap.size ≤ x)
  case first =>
    go_wp2_with fail
    go_loopw [91] (fun s wr => C9Rel W K b g base n cv m bytes cache (wlist T1) ds.length s wr) (fun s _ => ds.length - (intOf s).toNat)
    case atStart => exact ⟨0, cv, Nat.zero_le _, rfl, (by rw [List.take_zero, List.append_nil]; exact H0.out.mid.disk), Only.refl _ _, fun x hx => .inl hx⟩
    case round =>
      obtain ⟨k, cvk, hk, rfl, hdk, hon, hcv⟩ := hrel
      by_cases hlt : k < ds.length
      · obtain ⟨g', rfl, hcell⟩ := HROW.out wr hon k hlt
        have hltd : k < T1.dlist.length := by rw [← HLEN.out]; exact hlt
        have hout := H0.out.out _ (List.getElem_mem hltd)
        obtain ⟨ds', hfr⟩ := H0.out.tree.dl.at_ k hlt hltd
        have hndk := H0.out.mid.nodes k hlt
        obtain ⟨x, hx⟩ : ∃ x, x = T1.dlist[k] := ⟨_, rfl⟩
        obtain ⟨y, hy⟩ : ∃ y, y = ds[k] := ⟨_, rfl⟩
        rw [← hx] at hout hfr
        rw [← hy] at hfr hcell hndk
        obtain ⟨px, kx, hnx⟩ := hfr.nodeAt
        have hfrr : FRep (fun z => z < H) wr x.1 x.2 y ds' := hfr.only hon fun z T cs _ hz hT => H0.out.mid.disk.ne hz (fun e => notImm (X := 103) (by decide) (by decide) (by decide) (e ▸ hT)) (fun e => notImm (X := 111) (by decide) (by decide) (by decide) (e ▸ hT)) (fun e => notImm (X := 113) (by decide) (by decide) (by decide) (e ▸ hT))
        obtain ⟨py, ky, hny⟩ := hfrr.nodeAt
        have e1 : wr.cell? ⟨y, 0, none⟩ = some (.int .i64 (Tr.blk x.1 x.2)) := cellOf hny 0 rfl
        have hdkw : Blk wr dk 151 (#[dev b] ++ hd.cells) := H0.out.mid.dkb.only hon (H0.out.mid.disk.ne H0.out.mid.dkb (by decide) (by decide) (by decide))
        have e2 : wr.cell? ⟨dk, 0, none⟩ = some (.iface 23 (.pointer (some ⟨b, 0, none⟩))) := cellOf hdkw 0 rfl
        have hst : (cache ++ (wlist T1).take k) ++ [(Tr.blk x.1 x.2, nby x.1 x.2)] = cache ++ (wlist T1).take (k + 1) := by
          unfold wlist
          rw [vd_take _ hltd, ← hx, List.append_assoc]
        have BY := hide (bytes_any x.1 x.2 y ds' wr.drew (hfrr.below (Below.refl _ _).drew (fun _ h => h)) hout.1 hout.2.1 hout.2.2.1)
        obtain ⟨bk, hbk⟩ : ∃ bk, bk = Tr.blk x.1 x.2 := ⟨_, rfl⟩
        rw [← hbk] at e1
        have hbn : bk < n := by rw [hbk]; exact hout.2.2.2
        have hcl : (cache ++ (wlist T1).take k).length < 90000 := by
          have h1 := H0.out.room
          have h2 := List.length_take_le k (wlist T1)
          rw [List.length_append]; omega
        have S1 := hide (show wr.drew.cell? ⟨dk, 0, none⟩ = some (.iface 23 (.pointer (some ⟨b, 0, none⟩))) ∧ wr.drew.cell? ⟨y, 0, none⟩ = some (.int .i64 bk) from ⟨e2, e1⟩)
        have hnl : (nby x.1 x.2).length = 128 := nby_len hout.1
        have k0 : (0 : Int) ≤ (k : Int) := by omega
        have k1 : (k : Int) < (ds.length : Int) := by omega
        have HNL := hide hnl
        have HDK := hide hdk
        have HON := hide hon
        have HCV := hide hcv
        have HST := hide hst
        have HBK := hide hbk
        have HDKW := hide hdkw
        have HNY := hide hny
        have HKB := hide (show K + k < edge by have := H0.out.num; omega)
        have HBAD := hide (wrotes_calm H0.out.mid.calm k).bad
        clear hx hy hfr hndk hnx hfrr hst hbk hdk hon hcv hout hnl hdkw hny e1 e2
        go_upto_region 25 with fail
        go_region_held3 (fun w' => w'.cell? ⟨dk, 0, none⟩ = some (.iface 23 (.pointer (some ⟨b, 0, none⟩))) ∧ w'.cell? ⟨y, 0, none⟩ = some (.int .i64 bk)) (first | exact S1.out | assumption)
          (first
            | (go_at_call 93; (with_reducible refine BY.out.mono ?_); rintro e w4 ⟨g4, rfl, hb4, hz4, hbel4⟩
               have hs4 : w4.cell? ⟨dk, 0, none⟩ = some (.iface 23 (.pointer (some ⟨b, 0, none⟩))) ∧ w4.cell? ⟨y, 0, none⟩ = some (.int .i64 bk) := ⟨(hbel4.cell (p := ⟨dk, 0, none⟩) HDKW.out.lt).trans S1.out.1, (hbel4.cell (p := ⟨y, 0, none⟩) (Blk.lt HNY.out)).trans S1.out.2⟩
               have S4 := hide hs4
               have HB4 := hide hb4
               have HBEL4 := hide hbel4
               clear hb4 hbel4 hz4)
            | (go_at_call 92; (with_reducible refine (vwrite_u (K + k) b g base n bk 128 128 (some ⟨g4, 0, none⟩) cvk (wrotes m k) bytes (nby x.1 x.2) (cache ++ (wlist T1).take k) w4 (HDK.out.drew.below HBEL4.out) HBAD.out hbn HKB.out (SlU.whole HB4.out HNL.out (by omega)) (by omega) hcl).mono ?_); rintro e w5 ⟨cv5, rfl, hd5, ho5, hf5⟩
               have hs5 : w5.cell? ⟨dk, 0, none⟩ = some (.iface 23 (.pointer (some ⟨b, 0, none⟩))) ∧ w5.cell? ⟨y, 0, none⟩ = some (.int .i64 bk) := ⟨(ho5.cell (p := ⟨dk, 0, none⟩) (Nat.lt_of_lt_of_le HDKW.out.lt HBEL4.out.size) (HDK.out.ne HDKW.out (by decide) (by decide) (by decide))).trans S4.out.1, (ho5.cell (p := ⟨y, 0, none⟩) (Nat.lt_of_lt_of_le (Blk.lt HNY.out) HBEL4.out.size) (HDK.out.ne HNY.out (by decide) (by decide) (by decide))).trans S4.out.2⟩))
        go_wp2
        rw [pad_full HNL.out] at hd5
        have hz : W.heap.size ≤ wr.heap.size := HON.out.size
        have hz4 : wr.heap.size ≤ w4.heap.size := HBEL4.out.size
        go_roundw
        case rel =>
          refine ⟨k + 1, cv5, by omega, by go_num, ?_, ?_, ?_⟩
          · rw [← HST.out, ← HBK.out]; exact hd5
          · refine Only.trans' (HON.out.drew.below HBEL4.out) ho5 fun x hx hd => ?_
            rcases HCV.out x hd with h | h
            · exact h
            · omega
          · intro x hx
            rcases hf5 x hx with h | h
            · exact HCV.out x h
            · exact .inr (by omega)
        case measure => simp [intOf]; omega
      · have k1 : ¬ (k : Int) < (ds.length : Int) := by omega
        obtain rfl : k = ds.length := by omega
        have hfull : (wlist T1).take ds.length = wlist T1 := by rw [← HWL.out, List.take_length]
        rw [hfull] at hdk
        have HDK := hide hdk
        have HON := hide hon
        have HCV := hide hcv
        clear hdk hon hcv hfull
        go_wp2
        go_meet
        exact ⟨cvk, HDK.out, HON.out, HCV.out⟩
  case rest =>
    obtain ⟨cvk, hdk, hon, hcv⟩ := hcut
    rename_i hK
    have hroot : (q0 = none ∧ T1.rblk = 0 ∧ T1.rgen = 0) ∨ ∃ b0 dd pv kv, q0 = some ⟨b0, 0, none⟩ ∧ NodeAt wc b0 T1.rblk T1.rgen dd pv kv := by
      rcases H0.out.tree with ⟨e1, e2, _⟩ | ⟨h, nn, b0, e1, e2, e3⟩
      · left
        injection e2 with e2
        exact ⟨e2, by unfold Tree.rblk; rw [e1], by unfold Tree.rgen; rw [e1]⟩
      · right
        injection e2 with e2
        obtain ⟨pv, kv, hnn⟩ := e3.nodeAt
        refine ⟨b0, Tr.dirty h nn, pv, kv, e2, ?_⟩
        have e4 : T1.rblk = Tr.blk h nn := by unfold Tree.rblk; rw [e1]
        have e5 : T1.rgen = Tr.gen h nn := by unfold Tree.rgen; rw [e1]
        rw [e4, e5]
        exact Blk.only hnn hon (H0.out.mid.disk.ne hnn (by decide) (by decide) (by decide))
    exact hK _ _ (commit10 F H (K + ds.length) b g base n cvk (wrotes m ds.length) bytes (cache ++ wlist T1) dk hd ds s sl gn T1.rblk T1.rgen q0 keys W₀ wc (fun x hx => (hcv x hx).elim (hF x) fun h => .inr (by have := H0.out.mid.H_; omega)) (HW.out.trans (hon.mono fun x _ hx => (hF x hx).elim .inl fun h => .inr (.inr (.inr h))))
      (H0.out.mid.dfp hon hdk (wrotes_calm H0.out.mid.calm _) H0.out.num) (H4.out.only hon (H0.out.mid.disk.ne H4.out (by decide) (by decide) (by decide))) (H7.out.only hon (H0.out.mid.disk.ne H7.out (by decide) (by decide) (by decide))) hroot hsl hgn hrb hrg _ _ _ _ _ _ _ _ _ _ _ _ _ _ _ _ _ _ _ _ _ _ _ _ _ _ _ _ _ _ _ _ _ _ _ _ _ _ _ _ _ _ _ _ _ _ _ _ _ _ _ _ _ _ _ _ _ _ _ _ _ _ _ _ _ _ _ _ _ _ _ _ _ _ _ _ _ _ _ _ _ _ _ _ _ _ _ _ _ _ _ _ _ _ _ _ _ _ _ _ _ _ _ _ _ _ _ _ _ _ _ _ _ _ _ _ _ _ _ _ _ _ _ _ _ _ _ _ _ _ _ _ _ _)
end Go.Proofs.YtemondlgcmpbbaaGreatDoor

/- Plain: what holds of the nodes of a tree when they have got their blocks. -/
namespace Go.Proofs.YtemondlgcmpbbaaGreatDoor
open Go.RowKit

def Q0 (h : Nat) (n : Tr h) : Prop := Tr.size h n ≤ 116 ∧ (h = 0 ∨ 1 ≤ Tr.len h n)
def Q3 (n0 : Nat) (h : Nat) (n : Tr h) : Prop := Q0 h n ∧ SmallN h n ∧ (Tr.dirty h n = true → Tr.blk h n < n0)
theorem headD_lt {xs : List Nat} {n0 : Nat} (h0 : 0 < n0) (h : ∀ x ∈ xs, x < n0) : xs.headD 0 < n0 ∧ xs.getLastD 0 < n0 := by
  refine ⟨?_, ?_⟩
  · cases xs with
    | nil => exact h0
    | cons a l => exact h a (by simp)
  · cases xs with
    | nil => exact h0
    | cons a l =>
      rw [List.getLastD_cons]
      rcases List.eq_nil_or_concat l with rfl | ⟨l', b, rfl⟩
      · exact h a (by simp)
      · have : (l'.concat b).getLastD a = b := by simp
        rw [this]
        exact h b (by simp)
theorem cleanQ {n0 : Nat} : ∀ (h : Nat) (c : Tr h), NS Q0 h c → NS SmallN h c → dcount h c = 0 → NS (Q3 n0) h c
  | 0, c, h1, h2, h3 => ⟨h1, h2, fun hd => by
      have : dcount 0 c = 1 := if_pos hd
      omega⟩
  | h + 1, c, h1, h2, h3 => by
    have hc : (if Nd.dirty c then 1 else 0) + dkids h (Nd.es c) = 0 := h3
    refine ⟨⟨h1.1, h2.1, fun hd => by rw [if_pos (show Nd.dirty c = true from hd)] at hc; omega⟩, fun e he => cleanQ h e.2 (h1.2 e he) (h2.2 e he) ?_⟩
    have : ∀ (X : List (Str × Tr h)), dkids h X = 0 → ∀ e ∈ X, dcount h e.2 = 0 := by
      intro X
      induction X with
      | nil => intro _ e he; cases he
      | cons a X ih =>
        intro h0 e he
        rw [dkids_cons] at h0
        rcases List.mem_cons.1 he with rfl | he
        · omega
        · exact ih (by omega) e he
    exact this _ (by omega) e he
theorem lay_NS {g n0 : Nat} {d : Bool} (hg : g < 4294967296) (h0 : 0 < n0) (hn0 : n0 ≤ 65536) : ∀ (h : Nat) (n : Tr h) (xs : List Nat), NS Q0 h n → NS SmallN h n → (∀ x ∈ xs, x < n0) → NS (Q3 n0) h (lay g d h n xs) ∨ Tr.dirty h n = false ∧ dcount h n = 0
  | 0, n, xs, hq, hs, hx => by
    by_cases hd : Nd.dirty n = true
    · left
      rw [lay_pos0 xs hd]
      have := (headD_lt h0 hx).1
      exact ⟨hq, ⟨by show xs.headD 0 < 65536; omega, hg⟩, fun _ => this⟩
    · exact .inr ⟨show Nd.dirty n = false by simpa using hd, if_neg hd⟩
  | h + 1, n, xs, hq, hs, hx => by
    left
    have hk : ∀ (X : List (Str × Tr h)) (ys : List Nat), (∀ e ∈ X, NS Q0 h e.2) → (∀ e ∈ X, NS SmallN h e.2) → (∀ x ∈ ys, x < n0) → ∀ e ∈ layK (lay g d h) X ys, NS (Q3 n0) h e.2 := by
      intro X
      induction X with
      | nil => intro ys _ _ _ e he; cases he
      | cons a X ih =>
        intro ys h1 h2 h3 e he
        obtain ⟨k, c⟩ := a
        simp only [layK] at he
        rcases List.mem_cons.1 he with rfl | he
        · rcases lay_NS hg h0 hn0 h c (ys.take (dcount h c)) (h1 (k, c) (by simp)) (h2 (k, c) (by simp)) (fun x hx => h3 x (List.mem_of_mem_take hx)) with h | ⟨e1, e2⟩
          · exact h
          · have := lay_clean g d h c (ys.take (dcount h c)) e2
            simp only
            rw [this]
            exact cleanQ h c (h1 (k, c) (by simp)) (h2 (k, c) (by simp)) e2
        · exact ih _ (fun e he => h1 e (by simp [he])) (fun e he => h2 e (by simp [he])) (fun x hx => h3 x (List.mem_of_mem_drop hx)) e he
    have hkk := hk (Nd.es n) xs (fun e he => hq.2 e he) (fun e he => hs.2 e he) hx
    have hsz : ksum (layK (lay g d h) (Nd.es n) xs) = ksum (Nd.es n) := (LikeL.ksum (layK_like (lay_like g d h) (Nd.es n) xs)).symm
    have hln : (layK (lay g d h) (Nd.es n) xs).length = (Nd.es n).length := layK_len _ _
    have hq1 : ksum (Nd.es n) ≤ 116 := hq.1.1
    have hq2 : h + 1 = 0 ∨ 1 ≤ (Nd.es n).length := hq.1.2
    by_cases hd : Nd.dirty n = true
    · rw [lay_pos1 xs hd]
      have := (headD_lt h0 hx).2
      exact ⟨⟨⟨by show ksum _ ≤ 116; rw [hsz]; exact hq1, by show _ ∨ 1 ≤ List.length _; rw [hln]; exact hq2⟩, ⟨by show xs.getLastD 0 < 65536; omega, hg⟩, fun _ => this⟩, hkk⟩
    · rw [lay_neg1 xs hd]
      exact ⟨⟨⟨by show ksum _ ≤ 116; rw [hsz]; exact hq1, by show _ ∨ 1 ≤ List.length _; rw [hln]; exact hq2⟩, hs.1, fun h => absurd h hd⟩, hkk⟩
theorem dlist_dirty : ∀ (h : Nat) (n : Tr h), ∀ x ∈ dlist h n, Tr.dirty x.1 x.2 = true
  | 0, n, x, hx => by
    unfold dlist at hx
    split at hx
    · rename_i hd; rw [List.mem_singleton.1 hx]; exact hd
    · cases hx
  | h + 1, n, x, hx => by
    rcases List.mem_append.1 (show x ∈ ((Nd.es n).flatMap fun e => dlist h e.2) ++ (if Nd.dirty n then [⟨h + 1, n⟩] else []) from hx) with hx | hx
    · obtain ⟨e, he, hx⟩ := List.mem_flatMap.1 hx
      exact dlist_dirty h e.2 x hx
    · split at hx
      · rename_i hd; rw [List.mem_singleton.1 hx]; exact hd
      · cases hx
theorem NS.parts {n0 : Nat} {h : Nat} {n : Tr h} (hn : NS (Q3 n0) h n) (hd : Tr.dirty h n = true) : OutQ n0 ⟨h, n⟩ :=
  ⟨hn.here.1.1, hn.here.1.2, hn.mono fun _ _ h => h.2.1, hn.here.2.2 hd⟩
theorem lay_out {t : Tree} {g n0 : Nat} {xs : List Nat} (hg : g < 4294967296) (h0 : 0 < n0) (hn0 : n0 ≤ 65536) (hq : TN Q0 t) (hs : TN SmallN t) (hx : ∀ x ∈ xs, x < n0) : TN (Q3 n0) (t.lay g true xs) ∧ ∀ x ∈ (t.lay g true xs).dlist, OutQ n0 x := by
  have h1 : TN (Q3 n0) (t.lay g true xs) := by
    intro h n hr
    unfold Tree.lay at hr
    cases h' : t.root with
    | none => rw [h'] at hr; cases hr
    | some r =>
      rw [h'] at hr
      simp only [Option.map_some, Option.some.injEq] at hr
      cases hr
      rcases lay_NS hg h0 hn0 r.1 r.2 xs (hq r.1 r.2 h') (hs r.1 r.2 h') hx with h | ⟨_, e2⟩
      · exact h
      · rw [lay_clean g true r.1 r.2 xs e2]; exact cleanQ r.1 r.2 (hq r.1 r.2 h') (hs r.1 r.2 h') e2
  refine ⟨h1, fun x hx => ?_⟩
  unfold Tree.dlist at hx
  cases hr : (t.lay g true xs).root with
  | none => rw [hr] at hx; cases hx
  | some r =>
    rw [hr] at hx
    exact (dlist_NS r.1 r.2 (h1 r.1 r.2 hr) x hx).parts (dlist_dirty r.1 r.2 x hx)
theorem lay_root {t : Tree} {g n0 : Nat} {xs : List Nat} (h : TN (Q3 n0) (t.lay g true xs)) : (t.lay g true xs).rblk < 4294967296 ∧ (t.lay g true xs).rgen < 4294967296 := by
  unfold Tree.rblk Tree.rgen
  cases hr : (t.lay g true xs).root with
  | none => exact ⟨by show 0 < 4294967296; omega, by show 0 < 4294967296; omega⟩
  | some r =>
    have := (h r.1 r.2 hr).here.2.1
    exact ⟨by have := this.1; show Tr.blk r.1 r.2 < 4294967296; omega, this.2⟩
end Go.Proofs.YtemondlgcmpbbaaGreatDoor

/- Walks: Disk.Commit: each dirty node gets a block. -/
namespace Go.Proofs.YtemondlgcmpbbaaGreatDoor
open Go.RowKit

/-- A record with its block and time. -/
def NdS.at_ (s : NdS) (x g : Nat) : NdS := { s with blk := x, gen := g }

structure ComAsg (W : World) (H K b g base n : Nat) (cv : Value) (m : Nums) (bytes : List UInt8) (cache : List (Nat × List UInt8)) (dk : Nat) (hd : Hd) (ds : List Nat) (s : Nat → NdS) (T : Tree) (q0 : Option Addr) (L : List Nat) : Prop where
  mid : ComMid W H K b g base n cv m bytes cache dk hd ds s
  used : UsedJ H (H + 1 + 1 + 1 + 1) (H + 1 + 1 + 1) L W
  tree : TreeV (fun z => z < H) W T (.pointer q0) ds
  dirty_ : ∀ j, j < ds.length → (s j).dirty = true
  q0_ : TN Q0 T
  small : TN SmallN T
  nle : n ≤ 400
  room : ds.length ≤ (fr L n 2).length
  num : K + ds.length + 5 < edge
  cach : cache.length + ds.length < 90000

def C8Rel (W : World) (n : Nat) (L xs ds : List Nat) (s t : Nat → NdS) (s12 s47 : Value) (wr : World) : Prop :=
  ∃ k a : Nat, k ≤ ds.length ∧ s47 = .int .i64 k ∧ s12 = .int .i64 a ∧ a ≤ n ∧ fr L n a = xs.drop k ∧ Half wr ds k s t ∧ Only (· ∈ ds) W wr

theorem Blk.same {w : World} {y : Nat} {T : TypeId} {a b : Array Value} (h : Blk w y T a) (k : Blk w y T b) : a = b := by
  unfold Blk at h k
  rw [h] at k
  injection k with k
  injection k with k
theorem asg_laid {W wc : World} {H : Nat} {ds xs : List Nat} {s : Nat → NdS} {gn : Nat} (hs : ∀ j (hj : j < ds.length), NdAt W ds[j] (s j)) (hd : ∀ j, j < ds.length → (s j).dirty = true) (hnd : ds.Nodup) (ht : ∀ j (hj : j < ds.length), NdAt wc ds[j] ((s j).at_ (xs.getD j 0) gn)) (ho : Only (· ∈ ds) W wc) :
    Laid (fun z => z < H) ds (fun y => xs.getD (ds.idxOf y) 0) gn true W wc := by
  refine ⟨fun y hy => ?_, fun y hy blk gen pv kv hn => ?_, fun y _ hn hl => ho.block y hl hn⟩
  · obtain ⟨j, hj, rfl⟩ := List.getElem_of_mem hy
    have := hs j hj
    unfold NdAt at this
    rw [hd j hj] at this
    exact ⟨_, _, _, _, this⟩
  · obtain ⟨j, hj, rfl⟩ := List.getElem_of_mem hy
    have e := Blk.same (hs j hj) hn
    simp only [Array.mk.injEq, List.cons.injEq, Value.int.injEq, true_and, and_true] at e
    have hi : ds.idxOf ds[j] = j := hnd.idxOf_getElem j hj
    have := ht j hj
    unfold NdAt NdS.at_ at this
    simp only at this
    rw [hd j hj] at this
    simp only [hi]
    rw [← e.2.2.2.1, ← e.2.2.2.2]
    exact this
theorem asg_map {ds xs : List Nat} (hnd : ds.Nodup) (hl : ds.length ≤ xs.length) : ds.map (fun y => xs.getD (ds.idxOf y) 0) = xs.take ds.length := by
  apply List.ext_getElem
  · rw [List.length_map, List.length_take]; omega
  · intro j h1 h2
    rw [List.length_map] at h1
    simp only [List.getElem_map, List.getElem_take]
    rw [hnd.idxOf_getElem j h1, List.getD_eq_getElem?_getD, List.getElem?_eq_getElem (by omega)]
    rfl
set_option maxRecDepth 100000 in
set_option maxHeartbeats 6400000 in
theorem commit8 (F : Nat → Prop) (H K b g base n : Nat) (cv : Value) (m : Nums) (bytes : List UInt8) (cache : List (Nat × List UInt8)) (dk : Nat) (hd : Hd) (ds : List Nat) (s : Nat → NdS) (T : Tree) (L : List Nat) (sl gn : Nat) (q0 : Option Addr) (keys : Int) (W₀ W : World) (hF : ∀ x, dfp b g cv x → F x ∨ H ≤ x) (hW : Only (fun y => F y ∨ y = dk ∨ y ∈ ds ∨ H ≤ y) W₀ W) (h : ComAsg W H K b g base n cv m bytes cache dk hd ds s T q0 L)
    (h4 : Blk W H 88 #[.pointer q0, .int .i64 keys]) (h7 : Blk W (H + 1 + 1) 149 (headV sl gn 0 0)) (hsl : sl < 2) (hgn : gn < 4294967296)
    (T1 : Tree) (hT1 : T1 = T.lay gn true ((fr L n 2).take ds.length))
    (u1 u2 u3 u5 u10 u11 u13 u14 u15 u16 u17 u18 u19 u20 u21 u22 u23 u24 u25 u26 u27 u28 u29 u30 u31 u32 u33 u34 u35 u36 u37 u38 u39 u40 u41 u42 u43 u44 u45 u46 u47 u48 u49 u50 u51 u52 u53 u54 u55 u56 u57 u58 u59 u60 u61 u62 u63 u64 u65 u66 u67 u68 u69 u70 u71 u72 u73 u74 u75 u76 u77 u78 u79 u80 u81 u82 u83 u84 u85 u86 u87 u88 u89 u90 u91 u92 u93 u94 u95 u96 u97 u98 u99 u100 u101 u102 u103 u104 u105 u106 u107 u108 u109 u110 u111 u112 u113 u114 u115 u116 u117 u118 u119 u120 u121 u122 u123 u124 u125 u126 u127 u128 u129 u130 u131 u132 u133 u134 u135 u136 u137 u138 u139 : Value) :
    Code.wp Tryz.prog (comT 8) (bodyPostD Tryz.prog Tryz.f60 (ComEnd F H (K + ds.length) b g base n (wrotes m ds.length) bytes (cache ++ wlist T1) dk ds (fun j => (s j).at_ ((fr L n 2).getD j 0) gn) sl gn T1.rblk T1.rgen W₀)) ⟨#[.pointer (some ⟨dk, 0, none⟩), u1, u2, u3, .pointer (some ⟨H, 0, none⟩), u5, .pointer (some ⟨H + 1, 0, none⟩), .pointer (some ⟨H + 1 + 1, 0, none⟩), .pointer (some ⟨H + 1 + 1 + 1 + 1, 0, none⟩), .pointer (some ⟨H + 1 + 1 + 1 + 1 + 1, 0, none⟩), u10, u11, .int .i64 2, u13, u14, u15, u16, u17, u18, u19, u20, u21, u22, u23, u24, u25, u26, u27, u28, u29, u30, u31, u32, u33, u34, u35, u36, u37, u38, u39, u40, u41, u42, u43, u44, u45, u46, u47, u48, u49, u50, u51, u52, u53, u54, u55, u56, u57, u58, u59, u60, u61, u62, u63, u64, u65, u66, u67, u68, u69, u70, u71, u72, u73, u74, u75, u76, u77, u78, u79, u80, u81, u82, u83, u84, u85, u86, u87, u88, u89, u90, u91, u92, u93, u94, u95, u96, u97, u98, u99, u100, u101, u102, u103, u104, u105, u106, u107, u108, u109, u110, u111, u112, u113, u114, u115, u116, u117, u118, u119, u120, u121, u122, u123, u124, u125, u126, u127, u128, u129, u130, u131, u132, u133, u134, u135, u136, u137, u138, u139], [{ target := .fn (.func 90) #[.pointer (some ⟨H + 1, 0, none⟩), .pointer (some ⟨H + 1 + 1 + 1 + 1 + 1, 0, none⟩)], args := #[] }]⟩ W := by
  have mB := m_blocks
  obtain ⟨v, hv, hown⟩ := h.mid.dirt
  obtain ⟨A, c, rfl, hform⟩ := ownN_form hown
  have x9 : W.cell? ⟨H + 1 + 1 + 1 + 1 + 1, 0, none⟩ = some (.slice A ds.length c) := cellOf hv 0 rfl
  have hc : ds.length ≤ c ∧ c ≤ maxLen := ⟨hform.1, hform.2.1⟩
  obtain ⟨hc1, hc2⟩ := hc
  unfold maxLen at hc2
  have hlow := h.mid.low
  have hrow : ∀ wr, Only (· ∈ ds) W wr → ∀ k (hk : k < ds.length), ∃ g', A = some ⟨g', 0, none⟩ ∧ wr.cell? ⟨g', k, none⟩ = some (.pointer (some ⟨ds[k], 0, none⟩)) := by
    intro wr hr k hk
    cases hA : A with
    | none =>
      have := (hform.2.2.2 (by rw [hA]; rfl)).1
      omega
    | some a =>
      obtain ⟨e1, e2, e3, cur, e4, e5, e6⟩ := hform.2.2.1 a.block (by rw [hA]; rfl)
      rw [hA] at e3
      refine ⟨a.block, e3, ?_⟩
      rw [(hr.cell (p := ⟨a.block, k, none⟩) e2 (fun hm => by have h1 : a.block < H := hlow _ hm; omega)), e4.cell]
      have := congrArg (fun l => l[k]?) e6
      simp only [Nat.mul_one, List.getElem?_take, if_pos hk, List.getElem?_map, List.getElem?_eq_getElem hk, Option.map_some] at this
      rw [← Array.getElem?_toList]
      exact this
  obtain ⟨xs, hxs⟩ : ∃ xs, xs = fr L n 2 := ⟨_, rfl⟩
  have hroom := h.room
  rw [← hxs] at hroom hT1 ⊢
  have hds1 : ds.length ≤ 1000 := h.mid.few
  have hn2 : 2 ≤ n := h.mid.size
  have hn4 : n ≤ 400 := h.nle
  have hnd : ∀ {y T cs}, Blk W y T cs → T ≠ 137 → ¬ y ∈ ds := fun hy hT e => by
    obtain ⟨j, hj, e⟩ := List.getElem_of_mem e
    exact Blk.ne_ hy (h.mid.nodes j hj) hT e.symm
  have HND := hide (show ∀ y T cs, Blk W y T cs → T ≠ 137 → ¬ y ∈ ds from fun _ _ _ a b => hnd a b)
  have HROW := hide hrow
  have H0 := hide h
  have H7 := hide h7
  have H4 := hide h4
  have HW := hide hW
  have HXS := hide hxs
  have HT1 := hide hT1
  have HRM := hide hroom
  have HLOW := hide hlow
  clear h h7 hW h4 hv hown hform hrow hxs hT1 hroom hnd hlow
  conv => arg 2; whnf
  go_upto_block 2 with fail
  go_cut [12, 14] from 47 to 88 (fun s12 s14 wx => (∃ a : Nat, s12 = .int .i64 a) ∧ Half wx ds ds.length s (fun j => (s j).at_ (xs.getD j 0) gn) ∧ Only (· ∈ ds) W wx)
  case first =>
    go_wp2_with fail
    go_loopw [12, 47] (fun s12 s47 wr => C8Rel W n L xs ds s (fun j => (s j).at_ (xs.getD j 0) gn) s12 s47 wr) (fun _ s _ => ds.length - (intOf s).toNat)
    case atStart => exact ⟨0, 2, Nat.zero_le _, rfl, rfl, hn2, by rw [HXS.out]; rfl, Half.zero H0.out.mid.nodes, Only.refl _ _⟩
    case round =>
      obtain ⟨k, a, hk, rfl, rfl, han, hfr, hh, hon⟩ := hrel
      by_cases hlt : k < ds.length
      · obtain ⟨g', rfl, hcell⟩ := HROW.out wr hon k hlt
        have hnk : NdAt wr ds[k] (s k) := by have := hh k hlt; rwa [if_neg (Nat.lt_irrefl _)] at this
        obtain ⟨y, hy⟩ : ∃ y, y = ds[k] := ⟨_, rfl⟩
        rw [← hy] at hcell hnk
        have hkx : k < xs.length := Nat.lt_of_lt_of_le hlt HRM.out
        have hdkw : Blk wr dk 151 (#[dev b] ++ hd.cells) := H0.out.mid.dkb.only hon (HND.out _ _ _ H0.out.mid.dkb (by decide))
        have e0 : wr.cell? ⟨dk, 0, none⟩ = some (.iface 23 (.pointer (some ⟨b, 0, none⟩))) := cellOf hdkw 0 rfl
        have hatw : DkAt wr b (.slice (some ⟨g, 0, none⟩) n n) cv m := Blk.only H0.out.mid.disk.at_ hon (HND.out _ _ _ H0.out.mid.disk.at_ (by decide))
        have BL := hide (blocks_any b n n (some ⟨g, 0, none⟩) cv m wr hatw)
        have huw : UsedJ H (H + 1 + 1 + 1 + 1) (H + 1 + 1 + 1) L wr := H0.out.used.only hon (HND.out _ _ _ H0.out.used.var_ (by decide)) (fun e => by have := HLOW.out _ e; omega)
        have e8 : wr.cell? ⟨H + 1 + 1 + 1 + 1, 0, none⟩ = some (.map (some (H + 1 + 1 + 1))) := cellOf huw.var_ 0 rfl
        have h7w := H7.out.only hon (HND.out _ _ _ H7.out (by decide))
        have e7 : wr.cell? ⟨H + 1 + 1, 1, none⟩ = some (.int .u32 gn) := cellOf h7w 1 rfl
        have f0 : wr.cell? ⟨y, 0, none⟩ = some (.int .i64 (s k).blk) := cellOf hnk 0 rfl
        have f1 : wr.cell? ⟨y, 1, none⟩ = some (.int .u32 (s k).gen) := cellOf hnk 1 rfl
        have f2 : wr.frozen? ⟨y, 0, none⟩ = false := Blk.frozen hnk 0
        have f3 : wr.frozen? ⟨y, 1, none⟩ = false := Blk.frozen hnk 1
        have k0 : (0 : Int) ≤ (k : Int) := by omega
        have k1 : (k : Int) < (ds.length : Int) := by omega
        have LK := hide (fun a' => used_look huw.used a')
        have HUW := hide huw
        have HFR := hide hfr
        have HH := hide hh
        have HON := hide hon
        have HNK := hide hnk
        have HY := hide hy
        have HKX := hide hkx
        clear hfr hh hon hnk hy hdkw hatw huw h7w hkx
        go_wp2_with fail
        go_loop [12] (fun s => ∃ a' : Nat, s = .int .i64 a' ∧ a' ≤ n ∧ fr L n a' = xs.drop k) (fun s => n - (intOf s).toNat)
        case atStart => exact ⟨a, rfl, han, HFR.out⟩
        case round =>
          obtain ⟨a', rfl, han', hfr'⟩ := hrel
          have hlt' : a' < n := by
            rcases Nat.lt_or_ge a' n with h | h
            · exact h
            · rw [fr_end h] at hfr'
              have := congrArg List.length hfr'
              rw [List.length_drop, List.length_nil] at this
              have := HKX.out
              omega
          have a0 : (a' : Int) < (n : Int) := by omega
          have a1 : ¬ (n : Int) ≤ (a' : Int) := by omega
          have lk := LK.out a'
          by_cases hm : a' ∈ L
          · rw [if_pos hm] at lk
            have HFR' := hide hfr'
            have HM := hide hm
            clear hfr' hm
            go_wp2_with (go_at_call 237; refine BL.out.mono ?_; rintro e w' ⟨rfl, rfl⟩)
            go_round
            case rel => exact ⟨a' + 1, by go_num, by omega, by rw [← fr_used HM.out]; exact HFR'.out⟩
            case measure => simp [intOf]; omega
          · rw [if_neg hm] at lk
            have hcons := (fr_free hlt' hm).symm.trans hfr'
            rw [List.drop_eq_getElem_cons HKX.out] at hcons
            injection hcons with hc1' hc2'
            have HC1 := hide hc1'
            have HC2 := hide hc2'
            clear hfr' hm hc1' hc2'
            go_wp2_with (go_at_call 237; refine BL.out.mono ?_; rintro e w' ⟨rfl, rfl⟩)
            go_roundw
            case rel =>
              have hO : Only (· = ds[k]) wr ((wr.setCell ⟨y, 0, none⟩ (.int .i64 a')).setCell ⟨y, 1, none⟩ (.int .u32 gn)) := by rw [← HY.out]; exact (Only.set1 _ _ _ _).set2 _ _
              refine ⟨k + 1, a' + 1, by omega, by go_num, by go_num, by omega, HC2.out, HH.out.step H0.out.mid.nd hlt hO ?_, HON.out.trans (hO.mono fun x _ hx => by rw [hx]; exact List.getElem_mem _)⟩
              rw [← HY.out]
              have : xs.getD k 0 = a' := by rw [List.getD_eq_getElem?_getD, List.getElem?_eq_getElem HKX.out, HC1.out]; rfl
              unfold NdAt NdS.at_
              simp only [this]
              exact (Blk.set_ HNK.out 0 (.int .i64 a')).set_ 1 (.int .u32 gn)
            case measure => simp [intOf]; omega
      · have k1 : ¬ (k : Int) < (ds.length : Int) := by omega
        obtain rfl : k = ds.length := by omega
        have HH := hide hh
        have HON := hide hon
        clear hh hon hfr
        go_wp2
        go_meet
        exact ⟨⟨a, rfl⟩, HH.out, HON.out⟩
  case rest =>
    obtain ⟨⟨a, rfl⟩, hh, hon⟩ := hcut
    rename_i hK
    have hm := H0.out.mid
    have hall : ∀ {y T cs}, Blk W y T cs → T ≠ 137 → Blk wc y T cs := fun hy hT => hy.only hon (HND.out _ _ _ hy hT)
    have hlaid : Laid (fun z => z < H) ds (fun y => xs.getD (ds.idxOf y) 0) gn true W wc := asg_laid hm.nodes H0.out.dirty_ hm.nd hh.all hon
    have htree := H0.out.tree.lay hlaid (fun y hy => hy)
    rw [asg_map hm.nd HRM.out, if_pos rfl, ← HT1.out] at htree
    have hxn : ∀ x ∈ xs.take ds.length, x < n := fun x hx => by
      have := List.mem_of_mem_take hx
      rw [HXS.out] at this
      exact (fr_mem this).2.1
    have hout := lay_out (t := T) (g := gn) (n0 := n) (xs := xs.take ds.length) hgn (by omega) (by omega) H0.out.q0_ H0.out.small hxn
    have hrt := lay_root hout.1
    rw [← HT1.out] at hout hrt
    obtain ⟨v, hv, hown⟩ := hm.dirt
    have hmid : ComMid wc H K b g base n cv m bytes cache dk hd ds (fun j => (s j).at_ (xs.getD j 0) gn) :=
      ⟨hm.disk.only hon (fun x hx e => by
        obtain ⟨j, hj, rfl⟩ := List.getElem_of_mem e
        exact hm.disk.ne (hm.nodes j hj) (by decide) (by decide) (by decide) hx), hm.calm, hall hm.dkb (by decide), hall hm.e6 (by decide), ⟨v, hall hv (by decide), ownN_only hown hon fun x cs hx => HND.out _ _ _ hx (by decide)⟩, hh.all, hm.nd, hm.low, hm.dkl, hm.few, hm.size, hm.num, Nat.lt_of_lt_of_le hm.H_ hon.size⟩
    exact hK _ _ (commit9 F H K b g base n cv m bytes cache dk hd ds (fun j => (s j).at_ (xs.getD j 0) gn) T1 sl gn q0 keys W₀ wc hF (HW.out.trans (hon.mono fun x _ hx => .inr (.inr (.inl hx)))) ⟨hmid, htree, hout.2, H0.out.num, H0.out.cach⟩ (hall H4.out (by decide)) (hall H7.out (by decide)) hsl hgn hrt.1 hrt.2 _ _ _ _ _ _ _ _ _ _ _ _ _ _ _ _ _ _ _ _ _ _ _ _ _ _ _ _ _ _ _ _ _ _ _ _ _ _ _ _ _ _ _ _ _ _ _ _ _ _ _ _ _ _ _ _ _ _ _ _ _ _ _ _ _ _ _ _ _ _ _ _ _ _ _ _ _ _ _ _ _ _ _ _ _ _ _ _ _ _ _ _ _ _ _ _ _ _ _ _ _ _ _ _ _ _ _ _ _ _ _ _ _ _ _ _ _ _ _ _ _ _ _ _ _ _ _ _ _ _ _ _ _ _)
end Go.Proofs.YtemondlgcmpbbaaGreatDoor
