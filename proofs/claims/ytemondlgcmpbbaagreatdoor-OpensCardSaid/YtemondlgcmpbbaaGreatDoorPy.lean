/- Walks: shadowlaw's plays: the steps of some kinds are played. -/
import Derived.Test.YtemondlgcmpbbaaGreatDoorUp
import Derived.Deep.LoopGhost
namespace Go.Proofs.YtemondlgcmpbbaaGreatDoor
open Go.RowKit

def ocells (l : List OpS) : List Value := l.flatMap fun o => o.cells.toList
theorem ocells_length (l : List OpS) : (ocells l).length = l.length * 7 := by
  induction l with
  | nil => rfl
  | cons o l ih => simp only [ocells, List.flatMap_cons, List.length_append, List.length_cons] at *; rw [ih, OpS.cells_len]; omega
theorem ocells_snoc (l : List OpS) (o : OpS) : ocells (l ++ [o]) = ocells l ++ o.cells.toList := by simp [ocells]
theorem ocells_at : ∀ (l : List OpS) (k : Nat) (h : k < l.length) (j : Nat) (v : Value), l[k].cells.toList[j]? = some v → (ocells l)[k * 7 + j]? = some v
  | [], _, h, _, _, _ => by simp at h
  | o :: l, 0, _, j, v, hv => by
    simp only [List.getElem_cons_zero] at hv
    have hj : j < 7 := by have := (List.getElem?_eq_some_iff.1 hv).1; rwa [OpS.cells_len] at this
    simp only [ocells, List.flatMap_cons, Nat.zero_mul, Nat.zero_add]
    rw [List.getElem?_append_left (by rw [OpS.cells_len]; exact hj)]
    exact hv
  | o :: l, k + 1, h, j, v, hv => by
    have ih := ocells_at l k (by simpa using h) j v (by simpa using hv)
    simp only [ocells, List.flatMap_cons] at ih ⊢
    rw [List.getElem?_append_right (by rw [OpS.cells_len]; omega), OpS.cells_len, show (k + 1) * 7 + j - 7 = k * 7 + j by omega]
    exact ih
theorem ops_one (o : OpS) : ∀ u ∈ o.cells.toList, u.oneCell' = true := by
  intro u hu
  simp only [OpS.cells, List.mem_cons, List.not_mem_nil, or_false] at hu
  rcases hu with rfl | rfl | rfl | rfl | rfl | rfl | rfl <;> rfl

theorem ScAt.of_own {w : World} {B n c : Nat} {A : Option Addr} {os : List OpS} (h : w.ownsRow B 124 7 (.slice A n c) n (ocells os)) (hn : os.length = n) : ScAt w w.heap.size A n c os := by
  obtain ⟨A', c', hv, h1, h2, h3, h4⟩ := ownN_form h
  injection hv with e1 _ e3
  subst e1 e3
  refine ⟨hn, h1, h2, fun h0 => ?_⟩
  cases A with
  | none => have := (h4 rfl).1; omega
  | some a =>
    obtain ⟨hb, hl, e, cur, hc, hz, ht⟩ := h3 a.block rfl
    refine ⟨a.block, 0, e, hl, fun i hi j v hv => ?_⟩
    rw [hc.cell, Nat.zero_add, ← Array.getElem?_toList]
    have := ocells_at os i hi j v hv
    rw [← ht, List.getElem?_take] at this
    split at this
    · exact this
    · cases this

theorem info_op : (Tryz.prog.info? 124).map (fun i => (i.zero, i.size, i.bytes)) = some (some (.agg #[.int .i64 0, .int .i64 0, .int .i64 0, .int .i64 0, .int .i64 0, .string ⟨#[]⟩, .string ⟨#[]⟩]), 7, 72) := by kernel_rfl

def PyRel (okK : OpS → Prop) (n : Nat) (w : World) (l i : Value) (wr : World) : Prop := ∃ (k : Nat) (fs : List OpS), k ≤ n ∧ i = .int .i64 k ∧ wr.ownsRow w.heap.size 124 7 l fs.length (ocells fs) ∧ (∀ f ∈ fs, f.ok ∧ okK f) ∧ fs.length ≤ k ∧ Below w.heap.size w wr
def inK (kd : Int) (ks : List Int) : Bool := decide (kd < 4) || ks.contains kd
theorem inK_snoc (kd : Int) (ks : List Int) (j : Nat) (h : j < ks.length) : inK kd (ks.take (j + 1)) = (inK kd (ks.take j) || (kd == ks[j])) := by
  unfold inK
  rw [List.take_succ_eq_append_getElem h, List.contains_eq_any_beq, List.any_append, Bool.or_assoc, List.contains_eq_any_beq]
  simp
def InRel (kd : Int) (ks : List Int) (b j : Value) : Prop := ∃ q : Nat, q ≤ ks.length ∧ j = .int .i64 q ∧ b = .bool (inK kd (ks.take q))
def PyPost (w : World) : Ending → World → Prop := fun e w' => e = .returned (.bool true) ∧ Below w.heap.size w w'

set_option maxRecDepth 100000 in
set_option maxHeartbeats 4000000 in
theorem plays_any {I : World → Nat → Nat → Nat → Prop} {okK : OpS → Prop} (hI : StepsOk I okK) (h0 : Starts I) (A : Option Addr) (n c : Nat) (os : List OpS) (gk : Nat) (ks : List Int) (w : World) (h : ScAt w w.heap.size A n c os) (hg : Glob w) (hok : ∀ o ∈ os, o.ok) (hks : Blk w gk 3 (ks.map (Value.int .i64)).toArray) (hkl : ks.length ≤ 100) (hK : ∀ o : OpS, (o.kind < 4 ∨ o.kind ∈ ks) → okK o) :
    Calls Tryz.prog 48 #[.slice A n c, .slice (some ⟨gk, 0, none⟩) ks.length ks.length] w (PyPost w) := by
  obtain ⟨i0, hi0, hi1, hi2, hi3⟩ := info_parts info_op
  have hnl := h.1
  have hcn : n ≤ 9223372036854775807 := Nat.le_trans (Nat.le_trans h.2.1 h.2.2.1) maxLen_i64
  have HSM := hide (small_any A n c os w h)
  have HS := hide h
  have HG := hide hg
  have HOK := hide hok
  have HKS := hide hks
  have HK := hide hK
  have HI0 := hide hi0
  have HI1 := hide hi1
  have HI2 := hide hi2
  have HI3 := hide hi3
  clear h hg hok hks hK hi0 hi1 hi2 hi3
  go_enter Tryz.func48, Tryz.ntmps48
  go_upto_region 4 with (first
    | (go_at_call 75; refine HSM.out.mono ?_; rintro e w1 ⟨r, rfl, hr, hb1⟩; cases r))
  · go_ret
    exact ⟨rfl, hb1⟩
  have hn : n ≤ 16384 := by simpa using hr
  have HB1 := hide hb1
  clear hr hb1
  go_wp2
  go_loopw [6, 7] (fun l i wr => PyRel okK n w l i wr) (fun _ i _ => n - (intOf i).toNat)
  case atStart => exact ⟨0, [], Nat.zero_le _, rfl, World.ownsRow_nil _ _ _ _, (fun f hf => by cases hf), Nat.zero_le _, HB1.out⟩
  case round =>
    obtain ⟨k, fs, hk, rfl, hown, hfs, hfl, hbr⟩ := hrel
    obtain ⟨Al, cl, rfl, _⟩ := ownN_form hown
    have hgk : Blk w1 gk 3 _ := HKS.out.below HB1.out HKS.out.lt
    by_cases hlt : k < n
    · have hkl2 : k < os.length := by omega
      obtain ⟨b, o, rfl, hlo, hc⟩ := (HS.out.below hbr).2.2.2 (by omega)
      have hr := hc k hkl2
      obtain ⟨op, hop⟩ : ∃ op, op = os[k] := ⟨_, rfl⟩
      rw [← hop] at hr
      have hK1 : (op.kind < 4 ∨ op.kind ∈ ks) → okK op := HK.out op
      have hop1 : op.ok := HOK.out op (hop ▸ List.getElem_mem hkl2)
      have c0 : wr.cell? ⟨b, o + k * 7, none⟩ = some (.int .i64 op.kind) := hr 0 _ rfl
      have hkr : Blk wr gk 3 (ks.map (Value.int .i64)).toArray := HKS.out.below hbr HKS.out.lt
      have hks' : ∀ q (hq : q < ks.length), wr.cell? ⟨gk, q, none⟩ = some (.int .i64 ks[q]) := fun q hq => by rw [hkr.cell]; simp [hq]
      have HR := hide hr
      have HOP := hide hop1
      have HOWN := hide hown
      have HFS := hide hfs
      have HBR := hide hbr
      have HKC := hide hks'
      have HK1 := hide hK1
      have k1 : (0 : Int) ≤ (k : Int) := by omega
      have k2 : (k : Int) < (n : Int) := by omega
      clear hown hfs hbr hr hc hop hop1 hkr hks' hgk hK1
      go_wp2
      go_loop [9, 10] (fun bb j => InRel op.kind ks bb j) (fun _ j => ks.length - (intOf j).toNat)
      case atStart => exact ⟨0, Nat.zero_le _, rfl, by simp [inK]⟩
      case round =>
        obtain ⟨q, hq, rfl, rfl⟩ := hrel
        by_cases hq2 : q < ks.length
        · have hin := inK_snoc op.kind ks q hq2
          have kc := HKC.out q hq2
          obtain ⟨kq, hkq⟩ : ∃ kq, kq = ks[q] := ⟨_, rfl⟩
          rw [← hkq] at hin kc
          obtain ⟨bo, hbo⟩ : ∃ bo, bo = inK op.kind (ks.take q) := ⟨_, rfl⟩
          rw [← hbo] at hin ⊢
          have HIN := hide hin
          have q1 : (q : Int) < (ks.length : Int) := by omega
          have q0 : (0 : Int) ≤ (q : Int) := by omega
          clear hin hbo hkq
          cases bo with
          | true =>
            go_wp2
            go_round
            case rel => exact ⟨q + 1, by omega, by go_num, by rw [HIN.out]; rfl⟩
            case measure => simp [intOf]; omega
          | false =>
            by_cases hkk : op.kind = kq
            · have e1 : (op.kind == kq) = true := by simpa using hkk
              have E1 := hide e1
              clear e1
              go_wp2
              go_round
              case rel => exact ⟨q + 1, by omega, by go_num, by rw [HIN.out, E1.out]; simp⟩
              case measure => simp [intOf]; omega
            · have e1 : (op.kind == kq) = false := by simpa using hkk
              have E1 := hide e1
              go_wp2
              go_round
              case rel => exact ⟨q + 1, by omega, by go_num, by rw [HIN.out, E1.out]; simp⟩
              case measure => simp [intOf]; omega
        · obtain rfl : q = ks.length := by omega
          rw [List.take_length]
          have q1 : ¬ (ks.length : Int) < (ks.length : Int) := by omega
          obtain ⟨bo, hbo⟩ : ∃ bo, bo = inK op.kind ks := ⟨_, rfl⟩
          rw [← hbo]
          have HBO := hide hbo
          clear hbo
          cases bo with
          | false =>
            go_wp2
            go_roundw
            case rel => exact ⟨k + 1, fs, by omega, by go_num, HOWN.out, HFS.out, by omega, HBR.out⟩
            case measure => simp [intOf]; omega
          | true =>
            have hokk : okK op := HK1.out (by
              have := HBO.out
              unfold inK at this
              simp only [Bool.true_eq, Bool.or_eq_true, decide_eq_true_eq, List.contains_iff_mem] at this
              exact this)
            have HOKK := hide hokk
            have HOW2 := hide (ocells_snoc fs op)
            clear hokk
            obtain ⟨kind, x, y, a, b', s, t⟩ := op
            have hr2 : wr.rangeAt b (o + k * 7) [.int .i64 kind, .int .i64 x, .int .i64 y, .int .i64 a, .int .i64 b', .string s, .string t] := HR.out
            have HR2 := hide hr2
            have hzr := HBR.out.size
            clear hr2
            go_wp2_with (first
              | (refine wpList_load_mid rfl 124 (.tmp 47) rfl b (o + k * 7) rfl [.int .i64 kind, .int .i64 x, .int .i64 y, .int .i64 a, .int .i64 b', .string s, .string t] _ HR2.out Tryz.underlying124 rfl (by rw [size_op]; rfl) ?_)
              | (at_builtin
                 go_loud (
                 refine wpList_append_any _ rfl (.tmp 44) (.tmp 49) 73 rfl w.heap.size 124 i0 _ 7 72 Tryz.underlying73 HI0.out HI1.out HI2.out HI3.out rfl (by decide) (.slice Al fs.length cl) fs.length (ocells fs) rfl (HOWN.out.alloc _) (wr.heap.size + 1) (some ⟨wr.heap.size, 0, none⟩) 1 1 [.int .i64 kind, .int .i64 x, .int .i64 y, .int .i64 a, .int .i64 b', .string s, .string t] rfl ⟨rfl, fun _ => ⟨_, rfl, Nat.lt_succ_self _, fun j u hu => by rw [Addr.add_lit]; exact (Blk.new wr 124 #[.int .i64 kind, .int .i64 x, .int .i64 y, .int .i64 a, .int .i64 b', .string s, .string t]).range (cur := [.int .i64 kind, .int .i64 x, .int .i64 y, .int .i64 a, .int .i64 b', .string s, .string t]) (o := 0) rfl j u hu⟩⟩ (ops_one ⟨kind, x, y, a, b', s, t⟩) (by unfold maxLen; omega) (by omega) (by simp only [World.size_alloc]; omega) ?_
                 intro v' w3 hown3 hgr3 hat3
                 have HOWN3 := hide hown3
                 have HB3 := hide ((HBR.out.alloc hzr _).grown hgr3 (by simp only [World.size_alloc]; omega) (fun g e => (ownN_lt HOWN.out e).1))
                 clear hown3 hgr3 hat3)))
            go_roundw
            case rel =>
              refine ⟨k + 1, fs ++ [⟨kind, x, y, a, b', s, t⟩], by omega, by go_num, ?_, ?_, by rw [List.length_append]; simp only [List.length_cons, List.length_nil]; omega, HB3.out⟩
              · rw [List.length_append, HOW2.out]
                exact HOWN3.out
              · intro f hf
                rcases List.mem_append.1 hf with hf | hf
                · exact HFS.out f hf
                · rw [List.mem_singleton.1 hf]; exact ⟨HOP.out, HOKK.out⟩
            case measure => simp [intOf]; omega
    · have k2 : ¬ (k : Int) < (n : Int) := by omega
      have HU := hide (upTo_any hI h0 Al fs.length cl fs wr (ScAt.of_own hown rfl) (HG.out.below hbr) (by omega) hfs)
      have HBR := hide hbr
      clear hown hfs hbr hgk
      go_wp2_with (go_at_call 76; refine HU.out.mono ?_; rintro e w' ⟨rfl, hb'⟩)
      go_ret
      exact ⟨rfl, HBR.out.trans (hb'.mono HBR.out.size)⟩
end Go.Proofs.YtemondlgcmpbbaaGreatDoor
