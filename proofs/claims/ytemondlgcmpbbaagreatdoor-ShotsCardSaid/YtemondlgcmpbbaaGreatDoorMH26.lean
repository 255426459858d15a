/- Kj Kg Kl: merged. -/
import Derived.Test.YtemondlgcmpbbaaGreatDoorMH25
/- Walks: Disk.Commit: each dirty node gets a block. -/
namespace Go.Proofs.YtemondlgcmpbbaaGreatDoor
open Go.RowKit

def NdS.at_ (s : NdS) (x g : Nat) : NdS := { s with blk := x, gen := g }

structure ComAsg (W : World) (H K b g base n : Nat) (cv : Value) (m : Nums) (bytes : List UInt8) (cache : List (Nat × List UInt8)) (dk : Nat) (hd : Hd) (ds : List Nat) (s : Nat → NdS) (T : Tree) (q0 : Option Addr) (L : List Nat) : Prop where
  mid : ComMid W H K b g base n cv m bytes cache dk hd ds s
  used : UsedJ H (H + 1 + 1 + 1 + 1) (H + 1 + 1 + 1) L W
  tree : TreeV (fun z => z < H) W T (.pointer q0) ds
  dirty_ : ∀ j, j < ds.length → (s j).dirty = true
  q0_ : TN Q0 T
  small : TN SmallN T
  nle : n ≤ 400
  room : ds.length ≤ (fr L n 2).length
  num : K + ds.length + 5 < edge
  cach : cache.length + ds.length < 90000

def C8Rel (W : World) (n : Nat) (L xs ds : List Nat) (s t : Nat → NdS) (s12 s47 : Value) (wr : World) : Prop :=
  ∃ k a : Nat, k ≤ ds.length ∧ s47 = .int .i64 k ∧ s12 = .int .i64 a ∧ a ≤ n ∧ fr L n a = xs.drop k ∧ Half wr ds k s t ∧ Only (· ∈ ds) W wr

theorem Blk.same {w : World} {y : Nat} {T : TypeId} {a b : Array Value} (h : Blk w y T a) (k : Blk w y T b) : a = b := by
  unfold Blk at h k
  rw [h] at k
  injection k with k
  injection k with k
theorem asg_laid {W wc : World} {H : Nat} {ds xs : List Nat} {s : Nat → NdS} {gn : Nat} (hs : ∀ j (hj : j < ds.length), NdAt W ds[j] (s j)) (hd : ∀ j, j < ds.length → (s j).dirty = true) (hnd : ds.Nodup) (ht : ∀ j (hj : j < ds.length), NdAt wc ds[j] ((s j).at_ (xs.getD j 0) gn)) (ho : Only (· ∈ ds) W wc) :
    Laid (fun z => z < H) ds (fun y => xs.getD (ds.idxOf y) 0) gn true W wc := by
  refine ⟨fun y hy => ?_, fun y hy blk gen pv kv hn => ?_, fun y _ hn hl => ho.block y hl hn⟩
  · obtain ⟨j, hj, rfl⟩ := List.getElem_of_mem hy
    have := hs j hj
    unfold NdAt at this
    rw [hd j hj] at this
    exact ⟨_, _, _, _, this⟩
  · obtain ⟨j, hj, rfl⟩ := List.getElem_of_mem hy
    have e := Blk.same (hs j hj) hn
    simp only [Array.mk.injEq, List.cons.injEq, Value.int.injEq, true_and, and_true] at e
    have hi : ds.idxOf ds[j] = j := hnd.idxOf_getElem j hj
    have := ht j hj
    unfold NdAt NdS.at_ at this
    simp only at this
    rw [hd j hj] at this
    simp only [hi]
    rw [← e.2.2.2.1, ← e.2.2.2.2]
    exact this
theorem asg_map {ds xs : List Nat} (hnd : ds.Nodup) (hl : ds.length ≤ xs.length) : ds.map (fun y => xs.getD (ds.idxOf y) 0) = xs.take ds.length := by
  apply List.ext_getElem
  · rw [List.length_map, List.length_take]; omega
  · intro j h1 h2
    rw [List.length_map] at h1
    simp only [List.getElem_map, List.getElem_take]
    rw [hnd.idxOf_getElem j h1, List.getD_eq_getElem?_getD, List.getElem?_eq_getElem (by omega)]
    rfl
set_option maxRecDepth 100000 in
set_option maxHeartbeats 6400000 in
theorem commit8 (F : Nat → Prop) (H K b g base n : Nat) (cv : Value) (m : Nums) (bytes : List UInt8) (cache : List (Nat × List UInt8)) (dk : Nat) (hd : Hd) (ds : List Nat) (s : Nat → NdS) (T : Tree) (L : List Nat) (sl gn : Nat) (q0 : Option Addr) (keys : Int) (W₀ W : World) (hF : ∀ x, dfp b g cv x → F x ∨ H ≤ x) (hW : Only (fun y => F y ∨ y = dk ∨ y ∈ ds ∨ H ≤ y) W₀ W) (h : ComAsg W H K b g base n cv m bytes cache dk hd ds s T q0 L)
    (h4 : Blk W H 88 #[.pointer q0, .int .i64 keys]) (h7 : Blk W (H + 1 + 1) 149 (headV sl gn 0 0)) (hsl : sl < 2) (hgn : gn < 4294967296)
    (T1 : Tree) (hT1 : T1 = T.lay gn true ((fr L n 2).take ds.length))
    (u1 u2 u3 u5 u10 u11 u13 u14 u15 u16 u17 u18 u19 u20 u21 u22 u23 u24 u25 u26 u27 u28 u29 u30 u31 u32 u33 u34 u35 u36 u37 u38 u39 u40 u41 u42 u43 u44 u45 u46 u47 u48 u49 u50 u51 u52 u53 u54 u55 u56 u57 u58 u59 u60 u61 u62 u63 u64 u65 u66 u67 u68 u69 u70 u71 u72 u73 u74 u75 u76 u77 u78 u79 u80 u81 u82 u83 u84 u85 u86 u87 u88 u89 u90 u91 u92 u93 u94 u95 u96 u97 u98 u99 u100 u101 u102 u103 u104 u105 u106 u107 u108 u109 u110 u111 u112 u113 u114 u115 u116 u117 u118 u119 u120 u121 u122 u123 u124 u125 u126 u127 u128 u129 u130 u131 u132 u133 u134 u135 u136 u137 u138 u139 : Value) :
    Code.wp Tryz.prog (comT 8) (bodyPostD Tryz.prog Tryz.f60 (ComEnd F H (K + ds.length) b g base n (wrotes m ds.length) bytes (cache ++ wlist T1) dk ds (fun j => (s j).at_ ((fr L n 2).getD j 0) gn) sl gn T1.rblk T1.rgen W₀)) ⟨#[.pointer (some ⟨dk, 0, none⟩), u1, u2, u3, .pointer (some ⟨H, 0, none⟩), u5, .pointer (some ⟨H + 1, 0, none⟩), .pointer (some ⟨H + 1 + 1, 0, none⟩), .pointer (some ⟨H + 1 + 1 + 1 + 1, 0, none⟩), .pointer (some ⟨H + 1 + 1 + 1 + 1 + 1, 0, none⟩), u10, u11, .int .i64 2, u13, u14, u15, u16, u17, u18, u19, u20, u21, u22, u23, u24, u25, u26, u27, u28, u29, u30, u31, u32, u33, u34, u35, u36, u37, u38, u39, u40, u41, u42, u43, u44, u45, u46, u47, u48, u49, u50, u51, u52, u53, u54, u55, u56, u57, u58, u59, u60, u61, u62, u63, u64, u65, u66, u67, u68, u69, u70, u71, u72, u73, u74, u75, u76, u77, u78, u79, u80, u81, u82, u83, u84, u85, u86, u87, u88, u89, u90, u91, u92, u93, u94, u95, u96, u97, u98, u99, u100, u101, u102, u103, u104, u105, u106, u107, u108, u109, u110, u111, u112, u113, u114, u115, u116, u117, u118, u119, u120, u121, u122, u123, u124, u125, u126, u127, u128, u129, u130, u131, u132, u133, u134, u135, u136, u137, u138, u139], [{ target := .fn (.func 90) #[.pointer (some ⟨H + 1, 0, none⟩), .pointer (some ⟨H + 1 + 1 + 1 + 1 + 1, 0, none⟩)], args := #[] }]⟩ W := by
  have mB := m_blocks
  obtain ⟨v, hv, hown⟩ := h.mid.dirt
  obtain ⟨A, c, rfl, hform⟩ := ownN_form hown
  have x9 : W.cell? ⟨H + 1 + 1 + 1 + 1 + 1, 0, none⟩ = some (.slice A ds.length c) := cellOf hv 0 rfl
  have hc : ds.length ≤ c ∧ c ≤ maxLen := ⟨hform.1, hform.2.1⟩
  obtain ⟨hc1, hc2⟩ := hc
  unfold maxLen at hc2
  have hlow := h.mid.low
  have hrow : ∀ wr, Only (· ∈ ds) W wr → ∀ k (hk : k < ds.length), ∃ g', A = some ⟨g', 0, none⟩ ∧ wr.cell? ⟨g', k, none⟩ = some (.pointer (some ⟨ds[k], 0, none⟩)) := by
    intro wr hr k hk
    cases hA : A with
    | none =>
      have := (hform.2.2.2 (by rw [hA]; rfl)).1
      omega
    | some a =>
      obtain ⟨e1, e2, e3, cur, e4, e5, e6⟩ := hform.2.2.1 a.block (by rw [hA]; rfl)
      rw [hA] at e3
      refine ⟨a.block, e3, ?_⟩
      rw [(hr.cell (p := ⟨a.block, k, none⟩) e2 (fun hm => by have h1 : a.block < H := hlow _ hm; omega)), e4.cell]
      have := congrArg (fun l => l[k]?) e6
      simp only [Nat.mul_one, List.getElem?_take, if_pos hk, List.getElem?_map, List.getElem?_eq_getElem hk, Option.map_some] at this
      rw [← Array.getElem?_toList]
      exact this
  obtain ⟨xs, hxs⟩ : ∃ xs, xs = fr L n 2 := ⟨_, rfl⟩
  have hroom := h.room
  rw [← hxs] at hroom hT1 ⊢
  have hds1 : ds.length ≤ 1000 := h.mid.few
  have hn2 : 2 ≤ n := h.mid.size
  have hn4 : n ≤ 400 := h.nle
  have hnd : ∀ {y T cs}, Blk W y T cs → T ≠ 137 → ¬ y ∈ ds := fun hy hT e => by
    obtain ⟨j, hj, e⟩ := List.getElem_of_mem e
    exact Blk.ne_ hy (h.mid.nodes j hj) hT e.symm
  have HND := hide (show ∀ y T cs, Blk W y T cs → T ≠ 137 → ¬ y ∈ ds from fun _ _ _ a b => hnd a b)
  have HROW := hide hrow
  have H0 := hide h
  have H7 := hide h7
  have H4 := hide h4
  have HW := hide hW
  have HXS := hide hxs
  have HT1 := hide hT1
  have HRM := hide hroom
  have HLOW := hide hlow
  clear h h7 hW h4 hv hown hform hrow hxs hT1 hroom hnd hlow
  conv => arg 2; whnf
  go_upto_block 2 with fail
  go_cut [12, 14] from 47 to 88 (fun s12 s14 wx => (∃ a : Nat, s12 = .int .i64 a) ∧ Half wx ds ds.length s (fun j => (s j).at_ (xs.getD j 0) gn) ∧ Only (· ∈ ds) W wx)
  case first =>
    go_wp2_with fail
    go_loopw [12, 47] (fun s12 s47 wr => C8Rel W n L xs ds s (fun j => (s j).at_ (xs.getD j 0) gn) s12 s47 wr) (fun _ s _ => ds.length - (intOf s).toNat)
    case atStart => exact ⟨0, 2, Nat.zero_le _, rfl, rfl, hn2, by rw [HXS.out]; rfl, Half.zero H0.out.mid.nodes, Only.refl _ _⟩
    case round =>
      obtain ⟨k, a, hk, rfl, rfl, han, hfr, hh, hon⟩ := hrel
      by_cases hlt : k < ds.length
      · obtain ⟨g', rfl, hcell⟩ := HROW.out wr hon k hlt
        have hnk : NdAt wr ds[k] (s k) := by have := hh k hlt; rwa [if_neg (Nat.lt_irrefl _)] at this
        obtain ⟨y, hy⟩ : ∃ y, y = ds[k] := ⟨_, rfl⟩
        rw [← hy] at hcell hnk
        have hkx : k < xs.length := Nat.lt_of_lt_of_le hlt HRM.out
        have hdkw : Blk wr dk 151 (#[dev b] ++ hd.cells) := H0.out.mid.dkb.only hon (HND.out _ _ _ H0.out.mid.dkb (by decide))
        have e0 : wr.cell? ⟨dk, 0, none⟩ = some (.iface 23 (.pointer (some ⟨b, 0, none⟩))) := cellOf hdkw 0 rfl
        have hatw : DkAt wr b (.slice (some ⟨g, 0, none⟩) n n) cv m := Blk.only H0.out.mid.disk.at_ hon (HND.out _ _ _ H0.out.mid.disk.at_ (by decide))
        have BL := hide (blocks_any b n n (some ⟨g, 0, none⟩) cv m wr hatw)
        have huw : UsedJ H (H + 1 + 1 + 1 + 1) (H + 1 + 1 + 1) L wr := H0.out.used.only hon (HND.out _ _ _ H0.out.used.var_ (by decide)) (fun e => by have := HLOW.out _ e; omega)
        have e8 : wr.cell? ⟨H + 1 + 1 + 1 + 1, 0, none⟩ = some (.map (some (H + 1 + 1 + 1))) := cellOf huw.var_ 0 rfl
        have h7w := H7.out.only hon (HND.out _ _ _ H7.out (by decide))
        have e7 : wr.cell? ⟨H + 1 + 1, 1, none⟩ = some (.int .u32 gn) := cellOf h7w 1 rfl
        have f0 : wr.cell? ⟨y, 0, none⟩ = some (.int .i64 (s k).blk) := cellOf hnk 0 rfl
        have f1 : wr.cell? ⟨y, 1, none⟩ = some (.int .u32 (s k).gen) := cellOf hnk 1 rfl
        have f2 : wr.frozen? ⟨y, 0, none⟩ = false := Blk.frozen hnk 0
        have f3 : wr.frozen? ⟨y, 1, none⟩ = false := Blk.frozen hnk 1
        have k0 : (0 : Int) ≤ (k : Int) := by omega
        have k1 : (k : Int) < (ds.length : Int) := by omega
        have LK := hide (fun a' => used_look huw.used a')
        have HUW := hide huw
        have HFR := hide hfr
        have HH := hide hh
        have HON := hide hon
        have HNK := hide hnk
        have HY := hide hy
        have HKX := hide hkx
        clear hfr hh hon hnk hy hdkw hatw huw h7w hkx
        go_wp2_with fail
        go_loop [12] (fun s => ∃ a' : Nat, s = .int .i64 a' ∧ a' ≤ n ∧ fr L n a' = xs.drop k) (fun s => n - (intOf s).toNat)
        case atStart => exact ⟨a, rfl, han, HFR.out⟩
        case round =>
          obtain ⟨a', rfl, han', hfr'⟩ := hrel
          have hlt' : a' < n := by
            rcases Nat.lt_or_ge a' n with h | h
            · exact h
            · rw [fr_end h] at hfr'
              have := congrArg List.length hfr'
              rw [List.length_drop, List.length_nil] at this
              have := HKX.out
              omega
          have a0 : (a' : Int) < (n : Int) := by omega
          have a1 : ¬ (n : Int) ≤ (a' : Int) := by omega
          have lk := LK.out a'
          by_cases hm : a' ∈ L
          · rw [if_pos hm] at lk
            have HFR' := hide hfr'
            have HM := hide hm
            clear hfr' hm
            go_wp2_with (go_at_call 237; refine BL.out.mono ?_; rintro e w' ⟨rfl, rfl⟩)
            go_round
            case rel => exact ⟨a' + 1, by go_num, by omega, by rw [← fr_used HM.out]; exact HFR'.out⟩
            case measure => simp [intOf]; omega
          · rw [if_neg hm] at lk
            have hcons := (fr_free hlt' hm).symm.trans hfr'
            rw [List.drop_eq_getElem_cons HKX.out] at hcons
            injection hcons with hc1' hc2'
            have HC1 := hide hc1'
            have HC2 := hide hc2'
            clear hfr' hm hc1' hc2'
            go_wp2_with (go_at_call 237; refine BL.out.mono ?_; rintro e w' ⟨rfl, rfl⟩)
            go_roundw
            case rel =>
              have hO : Only (· = ds[k]) wr ((wr.setCell ⟨y, 0, none⟩ (.int .i64 a')).setCell ⟨y, 1, none⟩ (.int .u32 gn)) := by rw [← HY.out]; exact (Only.set1 _ _ _ _).set2 _ _
              refine ⟨k + 1, a' + 1, by omega, by go_num, by go_num, by omega, HC2.out, HH.out.step H0.out.mid.nd hlt hO ?_, HON.out.trans (hO.mono fun x _ hx => by rw [hx]; exact List.getElem_mem _)⟩
              rw [← HY.out]
              have : xs.getD k 0 = a' := by rw [List.getD_eq_getElem?_getD, List.getElem?_eq_getElem HKX.out, HC1.out]; rfl
              unfold NdAt NdS.at_
              simp only [this]
              exact (Blk.set_ HNK.out 0 (.int .i64 a')).set_ 1 (.int .u32 gn)
            case measure => simp [intOf]; omega
      · have k1 : ¬ (k : Int) < (ds.length : Int) := by omega
        obtain rfl : k = ds.length := by omega
        have HH := hide hh
        have HON := hide hon
        clear hh hon hfr
        go_wp2
        go_meet
        exact ⟨⟨a, rfl⟩, HH.out, HON.out⟩
  case rest =>
    obtain ⟨⟨a, rfl⟩, hh, hon⟩ := hcut
    rename_i hK
    have hm := H0.out.mid
    have hall : ∀ {y T cs}, Blk W y T cs → T ≠ 137 → Blk wc y T cs := fun hy hT => hy.only hon (HND.out _ _ _ hy hT)
    have hlaid : Laid (fun z => z < H) ds (fun y => xs.getD (ds.idxOf y) 0) gn true W wc := asg_laid hm.nodes H0.out.dirty_ hm.nd hh.all hon
    have htree := H0.out.tree.lay hlaid (fun y hy => hy)
    rw [asg_map hm.nd HRM.out, if_pos rfl, ← HT1.out] at htree
    have hxn : ∀ x ∈ xs.take ds.length, x < n := fun x hx => by
      have := List.mem_of_mem_take hx
      rw [HXS.out] at this
      exact (fr_mem this).2.1
    have hout := lay_out (t := T) (g := gn) (n0 := n) (xs := xs.take ds.length) hgn (by omega) (by omega) H0.out.q0_ H0.out.small hxn
    have hrt := lay_root hout.1
    rw [← HT1.out] at hout hrt
    obtain ⟨v, hv, hown⟩ := hm.dirt
    have hmid : ComMid wc H K b g base n cv m bytes cache dk hd ds (fun j => (s j).at_ (xs.getD j 0) gn) :=
      ⟨hm.disk.only hon (fun x hx e => by
        obtain ⟨j, hj, rfl⟩ := List.getElem_of_mem e
        exact hm.disk.ne (hm.nodes j hj) (by decide) (by decide) (by decide) hx), hm.calm, hall hm.dkb (by decide), hall hm.e6 (by decide), ⟨v, hall hv (by decide), ownN_only hown hon fun x cs hx => HND.out _ _ _ hx (by decide)⟩, hh.all, hm.nd, hm.low, hm.dkl, hm.few, hm.size, hm.num, Nat.lt_of_lt_of_le hm.H_ hon.size⟩
    exact hK _ _ (commit9 F H K b g base n cv m bytes cache dk hd ds (fun j => (s j).at_ (xs.getD j 0) gn) T1 sl gn q0 keys W₀ wc hF (HW.out.trans (hon.mono fun x _ hx => .inr (.inr (.inl hx)))) ⟨hmid, htree, hout.2, H0.out.num, H0.out.cach⟩ (hall H4.out (by decide)) (hall H7.out (by decide)) hsl hgn hrt.1 hrt.2 _ _ _ _ _ _ _ _ _ _ _ _ _ _ _ _ _ _ _ _ _ _ _ _ _ _ _ _ _ _ _ _ _ _ _ _ _ _ _ _ _ _ _ _ _ _ _ _ _ _ _ _ _ _ _ _ _ _ _ _ _ _ _ _ _ _ _ _ _ _ _ _ _ _ _ _ _ _ _ _ _ _ _ _ _ _ _ _ _ _ _ _ _ _ _ _ _ _ _ _ _ _ _ _ _ _ _ _ _ _ _ _ _ _ _ _ _ _ _ _ _ _ _ _ _ _ _ _ _ _ _ _ _ _)
end Go.Proofs.YtemondlgcmpbbaaGreatDoor

/- Walks: Disk.Commit: the tree that is laid is walked. -/
namespace Go.Proofs.YtemondlgcmpbbaaGreatDoor
open Go.RowKit

def LA (R : List (Tree × Value × List Nat)) (k : Nat) : List Nat := ((R.take k).flatMap fun r => r.1.blks).foldl ins []
theorem LA_step {R : List (Tree × Value × List Nat)} {k : Nat} (h : k < R.length) : LA R (k + 1) = (R[k].1.blks).foldl ins (LA R k) := by
  unfold LA
  rw [take_snoc h, List.flatMap_append, List.foldl_append]
  simp
set_option maxRecDepth 100000 in
set_option maxHeartbeats 6400000 in
theorem commit5 (K b g base n : Nat) (cv : Value) (m : Nums) (bytes : List UInt8) (cache : List (Nat × List UInt8)) (dk : Nat) (hd : Hd) (T : Tree) (q0 : Option Addr) (ds : List Nat) (A : Option Addr) (c : Nat) (R : List (Tree × Value × List Nat)) (w : World) (h : ComIn w K b g base n cv m bytes cache dk hd T (.pointer q0) ds A c R)
    (sl gn : Nat) (W : World) (hu : UsedJ w.heap.size (w.heap.size + 1 + 1 + 1 + 1) (w.heap.size + 1 + 1 + 1) (LA R R.length) W) (hx : ComX w.heap.size (.pointer q0) T.keys #[.int .i64 sl, .int .u32 gn, .int .i64 0, .int .u32 0] W) (hq : Blk W (w.heap.size + 1 + 1 + 1 + 1 + 1) 156 #[.slice none 0 0]) (hb : Below w.heap.size w W) (s : Nat → NdS) (hs : ∀ j (hj : j < ds.length), NdAt w ds[j] (s j)) (hsd : ∀ j, j < ds.length → (s j).dirty = true) (hsl : sl < 2) (hgn : gn < 4294967296) (T1 : Tree) (hT1 : T1 = T.lay gn true ((fr (usedL R T) n 2).take ds.length))
    (u1 u2 u3 u5 u10 u11 u12 u13 u14 u15 u16 u17 u18 u19 u20 u21 u22 u23 u24 u25 u26 u27 u28 u29 u30 u31 u32 u33 u34 u35 u36 u37 u38 u39 u40 u41 u42 u43 u44 u45 u46 u47 u48 u49 u50 u51 u52 u53 u54 u55 u56 u57 u58 u59 u60 u61 u62 u63 u64 u65 u66 u67 u68 u69 u70 u71 u72 u73 u74 u75 u76 u77 u78 u79 u80 u81 u82 u83 u84 u85 u86 u87 u88 u89 u90 u91 u92 u93 u94 u95 u96 u97 u98 u99 u100 u101 u102 u103 u104 u105 u106 u107 u108 u109 u110 u111 u112 u113 u114 u115 u116 u117 u118 u119 u120 u121 u122 u123 u124 u125 u126 u127 u128 u129 u130 u131 u132 u133 u134 u135 u136 u137 u138 u139 : Value) :
    Code.wp Tryz.prog (comT 5) (bodyPostD Tryz.prog Tryz.f60 (ComEnd (dfp b g cv) w.heap.size (K + ds.length) b g base n (wrotes m ds.length) bytes (cache ++ wlist T1) dk ds (fun j => (s j).at_ ((fr (usedL R T) n 2).getD j 0) gn) sl gn T1.rblk T1.rgen w)) ⟨#[.pointer (some ⟨dk, 0, none⟩), u1, u2, u3, .pointer (some ⟨w.heap.size, 0, none⟩), u5, .pointer (some ⟨w.heap.size + 1, 0, none⟩), .pointer (some ⟨w.heap.size + 1 + 1, 0, none⟩), .pointer (some ⟨w.heap.size + 1 + 1 + 1 + 1, 0, none⟩), .pointer (some ⟨w.heap.size + 1 + 1 + 1 + 1 + 1, 0, none⟩), u10, u11, u12, u13, u14, u15, u16, u17, u18, u19, u20, u21, u22, u23, u24, u25, u26, u27, u28, u29, u30, u31, u32, u33, u34, u35, u36, u37, u38, u39, u40, u41, u42, u43, u44, u45, u46, u47, u48, u49, u50, u51, u52, u53, u54, u55, u56, u57, u58, u59, u60, u61, u62, u63, u64, u65, u66, u67, u68, u69, u70, u71, u72, u73, u74, u75, u76, u77, u78, u79, u80, u81, u82, u83, u84, u85, u86, u87, u88, u89, u90, u91, u92, u93, u94, u95, u96, u97, u98, u99, u100, u101, u102, u103, u104, u105, u106, u107, u108, u109, u110, u111, u112, u113, u114, u115, u116, u117, u118, u119, u120, u121, u122, u123, u124, u125, u126, u127, u128, u129, u130, u131, u132, u133, u134, u135, u136, u137, u138, u139], []⟩ W := by
  have hmf : ∀ (fn : Fn) (first cap : Array Value) (w : World), (Instr.makeFunc fn first cap).run Tryz.prog w = .ok (.func fn first cap) w := fun _ _ _ _ => rfl
  have hds : ds.length ≤ 1000 := by
    have h1 := h.room
    have h2 : (fr (usedL R T) n 2).length ≤ n := by
      unfold fr
      refine Nat.le_trans (List.length_filter_le _ _) ?_
      rw [List.length_range']; omega
    have := h.size.2
    omega
  have hvb := h.tree.below hb (ok' := fun z => z < w.heap.size) (fun _ h => h)
  have x0 : W.cell? ⟨w.heap.size, 0, none⟩ = some (.pointer q0) := cellOf hx.t4 0 rfl
  have x1 : W.cell? ⟨w.heap.size, 1, none⟩ = some (.int .i64 T.keys) := cellOf hx.t4 1 rfl
  have WK := hide (tWalkB (M := 1000) (J := fun L D W => BothJ w.heap.size (w.heap.size + 1 + 1 + 1 + 1 + 1) (w.heap.size + 1 + 1 + 1 + 1) (w.heap.size + 1 + 1 + 1) L D W ∧ ComX w.heap.size (.pointer q0) T.keys #[.int .i64 sl, .int .u32 gn, .int .i64 0, .int .u32 0] W)
    (fun L D W W' h hb => ⟨h.1.below hb, h.2.keep fun y T cs hy _ _ => hy.below hb hy.lt⟩)
    (fun L D b blk gen dirty pv kv W hJ hn hb hn0 hM => by
      cases dirty with
      | false => exact commit2_clean (X := fun W => ComX w.heap.size (.pointer q0) T.keys #[.int .i64 sl, .int .u32 gn, .int .i64 0, .int .u32 0] W) (fun W W' hx hk => hx.keep hk) _ _ _ _ L D b blk gen pv kv W hJ hn hb hn0
      | true => exact commit2_dirty (X := fun W => ComX w.heap.size (.pointer q0) T.keys #[.int .i64 sl, .int .u32 gn, .int .i64 0, .int .u32 0] W) (fun W W' hx hk => hx.keep hk) _ _ _ _ L D b blk gen pv kv W hJ hn hb hn0 (by simp only [List.length_append] at hM; omega))
    T (.pointer q0) T.keys ds (LA R R.length) [] W hvb ⟨⟨hu, ⟨_, hq, ⟨rfl, .inl ⟨rfl, rfl⟩⟩⟩, by omega⟩, hx⟩ hb.size (by simpa [vdB] using hds))
  have HB := hide hb
  have H0 := hide h
  have hus : T.cblks.foldl ins (LA R R.length) = usedL R T := by unfold LA usedL; rw [List.take_length]
  rw [hus] at WK
  have HDS := hide hds
  have HS := hide hs
  have HSD := hide hsd
  have HT1 := hide hT1
  clear hu hx hq hb hvb h hus hds hs hsd hT1
  conv => arg 2; whnf
  go_upto_region 11 with (go_at_call 87; go_loud (refine WK.out.mono ?_; rintro e w3 ⟨rfl, hj3, hb3⟩))
  go_cut [12] from 12 to 12 (fun s12 wx => s12 = .int .i64 2 ∧ wx = w3)
  case first =>
    go_wp2
    go_meet
    exact ⟨rfl, rfl⟩
  case rest =>
    obtain ⟨rfl, rfl⟩ := hcut
    rename_i hK
    have hbw := HB.out.trans hb3
    obtain ⟨⟨hu3, ⟨v, hv, hown⟩, hl3⟩, hx3⟩ := hj3
    have e0 : [] ++ vdB ds = ds := rfl
    rw [e0] at hown
    have hin := H0.out
    have hlow : ∀ y ∈ ds, y < w.heap.size := fun y hy => (hin.tree.ds y hy).1
    have hmid : ComMid wc w.heap.size K b g base n cv m bytes cache dk hd ds s :=
      ⟨hin.disk.below hbw, hin.calm, hin.dkb.below hbw hin.dkb.lt, hx3.e6, ⟨v, hv, hown⟩, fun j hj => Blk.below (HS.out j hj) hbw (Blk.lt (HS.out j hj)), hin.nd, hlow, hin.dkb.lt, HDS.out, by have := hin.size.1; omega, by have := hin.num; omega, by have := hv.lt; omega⟩
    exact hK _ _ (commit8 (dfp b g cv) w.heap.size K b g base n cv m bytes cache dk hd ds s T (usedL R T) sl gn q0 T.keys w wc (fun x h => .inl h) (Only.of_below hbw) ⟨hmid, hu3, hin.tree.below hbw (fun _ h => h), HSD.out, fun h n hr => (hin.fit h n hr).mono fun _ _ h => h, hin.small, hin.size.2, hin.room, by have := hin.num; omega, by have := hin.cache_; have := HDS.out; omega⟩ hx3.t4 hx3.h7 hsl hgn T1 HT1.out _ _ _ _ _ _ _ _ _ _ _ _ _ _ _ _ _ _ _ _ _ _ _ _ _ _ _ _ _ _ _ _ _ _ _ _ _ _ _ _ _ _ _ _ _ _ _ _ _ _ _ _ _ _ _ _ _ _ _ _ _ _ _ _ _ _ _ _ _ _ _ _ _ _ _ _ _ _ _ _ _ _ _ _ _ _ _ _ _ _ _ _ _ _ _ _ _ _ _ _ _ _ _ _ _ _ _ _ _ _ _ _ _ _ _ _ _ _ _ _ _ _ _ _ _ _ _ _ _ _ _ _ _)
end Go.Proofs.YtemondlgcmpbbaaGreatDoor

/- Walks: Disk.Commit: the trees that are read are walked. -/
namespace Go.Proofs.YtemondlgcmpbbaaGreatDoor
open Go.RowKit

def C1Rel (w : World) (H qd qu u : Nat) (rp : Value) (keys : Int) (h' : Array Value) (R : List (Tree × Value × List Nat)) (s : Value) (wr : World) : Prop :=
  ∃ k : Nat, k ≤ R.length ∧ s = .int .i64 k ∧ (UsedJ H qu u (LA R k) wr ∧ (ComX H rp keys h' wr ∧ Blk wr qd 156 #[.slice none 0 0])) ∧ Below H w wr

set_option maxRecDepth 100000 in
set_option maxHeartbeats 6400000 in
theorem commit4 (K b g base n : Nat) (cv : Value) (m : Nums) (bytes : List UInt8) (cache : List (Nat × List UInt8)) (dk : Nat) (hd : Hd) (T : Tree) (q0 : Option Addr) (ds : List Nat) (A : Option Addr) (c : Nat) (R : List (Tree × Value × List Nat)) (w : World) (h : ComIn w K b g base n cv m bytes cache dk hd T (.pointer q0) ds A c R)
    (sl gn : Nat) (W0 : World) (hu0 : UsedJ w.heap.size (w.heap.size + 1 + 1 + 1 + 1) (w.heap.size + 1 + 1 + 1) [] W0) (hx0 : ComX w.heap.size (.pointer q0) T.keys #[.int .i64 sl, .int .u32 gn, .int .i64 0, .int .u32 0] W0) (hd0 : Blk W0 (w.heap.size + 1 + 1 + 1 + 1 + 1) 156 #[.slice none 0 0]) (hb0 : Below w.heap.size w W0)
    (s : Nat → NdS) (hs : ∀ j (hj : j < ds.length), NdAt w ds[j] (s j)) (hsd : ∀ j, j < ds.length → (s j).dirty = true) (hsl2 : sl < 2) (hgn2 : gn < 4294967296) (T1 : Tree) (hT1 : T1 = T.lay gn true ((fr (usedL R T) n 2).take ds.length))
    (u1 u3 u5 u10 u11 u12 u13 u14 u15 u16 u17 u18 u19 u20 u21 u22 u23 u24 u25 u26 u27 u28 u29 u30 u31 u32 u33 u34 u35 u36 u37 u38 u39 u40 u41 u42 u43 u44 u45 u46 u47 u48 u49 u50 u51 u52 u53 u54 u55 u56 u57 u58 u59 u60 u61 u62 u63 u64 u65 u66 u67 u68 u69 u70 u71 u72 u73 u74 u75 u76 u77 u78 u79 u80 u81 u82 u83 u84 u85 u86 u87 u88 u89 u90 u91 u92 u93 u94 u95 u96 u97 u98 u99 u100 u101 u102 u103 u104 u105 u106 u107 u108 u109 u110 u111 u112 u113 u114 u115 u116 u117 u118 u119 u120 u121 u122 u123 u124 u125 u126 u127 u128 u129 u130 u131 u132 u133 u134 u135 u136 u137 u138 u139 : Value) :
    Code.wp Tryz.prog (comT 4) (bodyPostD Tryz.prog Tryz.f60 (ComEnd (dfp b g cv) w.heap.size (K + ds.length) b g base n (wrotes m ds.length) bytes (cache ++ wlist T1) dk ds (fun j => (s j).at_ ((fr (usedL R T) n 2).getD j 0) gn) sl gn T1.rblk T1.rgen w)) ⟨#[.pointer (some ⟨dk, 0, none⟩), u1, .slice A R.length c, u3, .pointer (some ⟨w.heap.size, 0, none⟩), u5, .pointer (some ⟨w.heap.size + 1, 0, none⟩), .pointer (some ⟨w.heap.size + 1 + 1, 0, none⟩), .pointer (some ⟨w.heap.size + 1 + 1 + 1 + 1, 0, none⟩), .pointer (some ⟨w.heap.size + 1 + 1 + 1 + 1 + 1, 0, none⟩), u10, u11, u12, u13, u14, u15, u16, u17, u18, u19, u20, u21, u22, u23, u24, u25, u26, u27, u28, u29, u30, u31, u32, u33, u34, u35, u36, u37, u38, u39, u40, u41, u42, u43, u44, u45, u46, u47, u48, u49, u50, u51, u52, u53, u54, u55, u56, u57, u58, u59, u60, u61, u62, u63, u64, u65, u66, u67, u68, u69, u70, u71, u72, u73, u74, u75, u76, u77, u78, u79, u80, u81, u82, u83, u84, u85, u86, u87, u88, u89, u90, u91, u92, u93, u94, u95, u96, u97, u98, u99, u100, u101, u102, u103, u104, u105, u106, u107, u108, u109, u110, u111, u112, u113, u114, u115, u116, u117, u118, u119, u120, u121, u122, u123, u124, u125, u126, u127, u128, u129, u130, u131, u132, u133, u134, u135, u136, u137, u138, u139], []⟩ W0 := by
  have hmf : ∀ (fn : Fn) (first cap : Array Value) (w : World), (Instr.makeFunc fn first cap).run Tryz.prog w = .ok (.func fn first cap) w := fun _ _ _ _ => rfl
  have hR10 : R.length ≤ 10 := h.few.1
  have hRc : R.length ≤ c := h.few.2.1
  have hc1000 : c ≤ 9223372036854775807 := by have := h.few.2.2; unfold maxLen at this; omega
  have HB0 := hide hb0
  have HX0 := hide hx0
  have HU0 := hide hu0
  have HD0 := hide hd0
  have HS := hide hs
  have HSD := hide hsd
  have HT1 := hide hT1
  have H0 := hide h
  clear h hu0 hx0 hd0 hb0 hs hsd hT1
  conv => arg 2; whnf
  go_upto_block 0 with fail
  go_cut [11] from 33 to 40 (fun s11 wx => (UsedJ w.heap.size (w.heap.size + 1 + 1 + 1 + 1) (w.heap.size + 1 + 1 + 1) (LA R R.length) wx ∧ (ComX w.heap.size (.pointer q0) T.keys #[.int .i64 sl, .int .u32 gn, .int .i64 0, .int .u32 0] wx ∧ Blk wx (w.heap.size + 1 + 1 + 1 + 1 + 1) 156 #[.slice none 0 0])) ∧ Below w.heap.size w wx)
  case first =>
    go_wp2_with fail
    go_loopw [33] (fun s wr => C1Rel w w.heap.size (w.heap.size + 1 + 1 + 1 + 1 + 1) (w.heap.size + 1 + 1 + 1 + 1) (w.heap.size + 1 + 1 + 1) (.pointer q0) T.keys #[.int .i64 sl, .int .u32 gn, .int .i64 0, .int .u32 0] R s wr) (fun s _ => R.length - (intOf s).toNat)
    case atStart => exact ⟨0, Nat.zero_le _, rfl, ⟨HU0.out, HX0.out, HD0.out⟩, HB0.out⟩
    case round =>
      obtain ⟨k, hk, rfl, hj, hb⟩ := hrel
      by_cases hlt : k < R.length
      · obtain ⟨gr, o, hA, hgr, r1, r2, htv⟩ := H0.out.rds k hlt
        obtain ⟨qk, hqk⟩ := htv.ptr
        rw [hqk] at r1 htv
        subst hA
        have e1 : wr.cell? ⟨gr, o + k * 2, none⟩ = some (.pointer qk) := (hb.cell (p := ⟨gr, o + k * 2, none⟩) hgr).trans r1
        have e2 : wr.cell? ⟨gr, o + k * 2 + 1, none⟩ = some (.int .i64 R[k].1.keys) := (hb.cell (p := ⟨gr, o + k * 2 + 1, none⟩) hgr).trans r2
        have hal : Below wr.heap.size wr (wr.alloc (.cells #[.pointer qk, .int .i64 R[k].1.keys] 88)) := (Below.refl _ _).alloc (Nat.le_refl _) _
        have hv1 : TreeV (fun z => z < w.heap.size) (wr.alloc (.cells #[.pointer qk, .int .i64 R[k].1.keys] 88)) R[k].1 (.pointer qk) R[k].2.2 := (htv.below hb (fun _ h => h)).below hal (fun _ h => h)
        have hj1 : UsedJ w.heap.size (w.heap.size + 1 + 1 + 1 + 1) (w.heap.size + 1 + 1 + 1) (LA R k) (wr.alloc (.cells #[.pointer qk, .int .i64 R[k].1.keys] 88)) ∧ (ComX w.heap.size (.pointer q0) T.keys #[.int .i64 sl, .int .u32 gn, .int .i64 0, .int .u32 0] (wr.alloc (.cells #[.pointer qk, .int .i64 R[k].1.keys] 88)) ∧ Blk (wr.alloc (.cells #[.pointer qk, .int .i64 R[k].1.keys] 88)) (w.heap.size + 1 + 1 + 1 + 1 + 1) 156 #[.slice none 0 0]) :=
          ⟨hj.1.below hal, hj.2.1.keep (fun y T cs hy _ _ => hy.alloc _), hj.2.2.alloc _⟩
        have WK := hide (tWalkA (M := 0) (J := fun L _ W => UsedJ w.heap.size (w.heap.size + 1 + 1 + 1 + 1) (w.heap.size + 1 + 1 + 1) L W ∧ (ComX w.heap.size (.pointer q0) T.keys #[.int .i64 sl, .int .u32 gn, .int .i64 0, .int .u32 0] W ∧ Blk W (w.heap.size + 1 + 1 + 1 + 1 + 1) 156 #[.slice none 0 0]))
          (fun L D W W' h hb => ⟨h.1.below hb, h.2.1.keep (fun y T cs hy _ _ => hy.below hb hy.lt), h.2.2.below hb h.2.2.lt⟩)
          (fun L D b blk gen dirty pv kv W hJ hn hb hn0 _ => commit1_any (X := fun W => ComX w.heap.size (.pointer q0) T.keys #[.int .i64 sl, .int .u32 gn, .int .i64 0, .int .u32 0] W ∧ Blk W (w.heap.size + 1 + 1 + 1 + 1 + 1) 156 #[.slice none 0 0]) (fun W W' hx hk => ⟨hx.1.keep fun y T cs hy _ _ => hk y T cs hy, hk _ _ _ hx.2⟩) _ _ _ L D b blk gen dirty pv kv W hJ hn hb hn0)
          R[k].1 (.pointer qk) R[k].1.keys R[k].2.2 (LA R k) [] _ hv1 hj1 (Nat.le_trans hb.size hal.size) (by simp [vdA]))
        rw [← LA_step hlt] at WK
        have k0 : (0 : Int) ≤ (k : Int) := by omega
        have k1 : (k : Int) < (R.length : Int) := by omega
        have HB := hide hb
        have HAL := hide hal
        clear hj hb hv1 hj1 hal htv r1 r2 hqk
        go_wp2_with (go_at_call 87; go_loud (refine WK.out.mono ?_; rintro e w3 ⟨rfl, hj3, hb3⟩))
        go_roundw
        case rel => exact ⟨k + 1, by omega, by go_num, hj3, HB.out.trans (Below.from_alloc hb3 HB.out HB.out.size)⟩
        case measure => simp [intOf]; omega
      · have k1 : ¬ (k : Int) < (R.length : Int) := by omega
        obtain rfl : k = R.length := by omega
        have HJ := hide hj
        have HB := hide hb
        clear hj hb
        go_wp2
        go_meet
        exact ⟨HJ.out, HB.out⟩
  case rest =>
    obtain ⟨⟨hu, hx, hq⟩, hb⟩ := hcut
    rename_i hK
    exact hK _ _ (commit5 K b g base n cv m bytes cache dk hd T q0 ds A c R w H0.out sl gn wc hu hx hq hb s HS.out HSD.out hsl2 hgn2 T1 HT1.out _ _ _ _ _ _ _ _ _ _ _ _ _ _ _ _ _ _ _ _ _ _ _ _ _ _ _ _ _ _ _ _ _ _ _ _ _ _ _ _ _ _ _ _ _ _ _ _ _ _ _ _ _ _ _ _ _ _ _ _ _ _ _ _ _ _ _ _ _ _ _ _ _ _ _ _ _ _ _ _ _ _ _ _ _ _ _ _ _ _ _ _ _ _ _ _ _ _ _ _ _ _ _ _ _ _ _ _ _ _ _ _ _ _ _ _ _ _ _ _ _ _ _ _ _ _ _ _ _ _ _ _ _ _)
end Go.Proofs.YtemondlgcmpbbaaGreatDoor
