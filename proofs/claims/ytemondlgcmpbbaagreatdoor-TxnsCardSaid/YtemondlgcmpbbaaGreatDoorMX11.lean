/- Sm Up Py: merged. -/
import Derived.Test.YtemondlgcmpbbaaGreatDoorMX10
import Derived.Deep.LoopGhost
namespace Go.Proofs.YtemondlgcmpbbaaGreatDoor
open Go.RowKit
set_option maxRecDepth 100000
def ScAt (w : World) (B : Nat) (A : Option Addr) (n c : Nat) (os : List OpS) : Prop := os.length = n /\ n <= c /\ c <= maxLen /\ (0 < n -> ∃ b o, A = some ⟨b, o, none⟩ /\ b < B /\ ∀ i (h : i < os.length), w.rangeAt b (o + i * 7) os[i].cells.toList)
theorem ScAt.below {w w' : World} {B n c : Nat} {A : Option Addr} {os : List OpS} (h : ScAt w B A n c os) (hb : Below B w w') : ScAt w' B A n c os := by
 obtain ⟨h1, h2, h3, h4⟩ := h
 refine ⟨h1, h2, h3, fun h0 => ?_⟩
 obtain ⟨b, o, hA, hB, hc⟩ := h4 h0
 exact ⟨b, o, hA, hB, fun i hi j v hv => (hb.cell (p := ⟨b, o + i * 7 + j, none⟩) hB).trans (hc i hi j v hv)⟩
theorem zi4 : maxLen <= 9223372036854775807 := by unfold maxLen; omega
def zqo (n : Nat) (w : World) : Ending -> World -> Prop := fun e w' => ∃ r, e = .returned (.bool r) /\ (r = true -> n <= 16384) /\ Below w.heap.size w w'
def zsf (n : Nat) (w : World) (t i : Value) (wr : World) : Prop := ∃ (k : Nat) (q : Int), k <= n /\ i = .int .i64 k /\ t = .int .i64 q /\ Below w.heap.size w wr
set_option maxHeartbeats 2000000 in
theorem zqp (A : Option Addr) (n c : Nat) (os : List OpS) (w : World) (h : ScAt w w.heap.size A n c os) :
   Calls Tryz.prog 75 #[.slice A n c] w (zqo n w) := by
 have hn := h.1
 have hml := zi4
 have hcn : n <= 9223372036854775807 := Nat.le_trans (Nat.le_trans h.2.1 h.2.2.1) hml
 have HS := zaa h
 clear h
 by_cases hbig : 16384 < n
 . have hb : (16384 : Int) < n := by omega
   go_enter Tryz.func75, Tryz.ntmps75
   go_wp2
   go_ret
   exact ⟨false, rfl, (fun h => by cases h), Below.refl _ _⟩
 . have hb : ¬ (16384 : Int) < n := by omega
   have hfin : n <= 16384 := by omega
   go_enter Tryz.func75, Tryz.ntmps75
   go_wp2
   go_loopw [3, 4] (fun t i wr => zsf n w t i wr) (fun _ i _ => n - (intOf i).toNat)
   case atStart => exact ⟨0, _, Nat.zero_le _, rfl, rfl, Below.refl _ _⟩
   case round =>
    obtain ⟨k, q, hk, rfl, rfl, hbr⟩ := hrel
    by_cases hlt : k < n
    . have hkl : k < os.length := by omega
      obtain ⟨b, o, rfl, hB, hc⟩ := (HS.out.below hbr).2.2.2 (by omega)
      have hr := hc k hkl
      have c5 := hr 5 (.string os[k].s) rfl
      have c6 := hr 6 (.string os[k].t) rfl
      obtain ⟨s5, hs5⟩ : ∃ s, s = os[k].s := ⟨_, rfl⟩
      obtain ⟨s6, hs6⟩ : ∃ s, s = os[k].t := ⟨_, rfl⟩
      rw [<- hs5] at c5
      rw [<- hs6] at c6
      have k1 : (0 : Int) <= (k : Int) := by omega
      have k2 : (k : Int) < (n : Int) := by omega
      have HBR := zaa hbr
      clear hbr hr hc hs5 hs6 hn
      by_cases hov : 16384 < wrap64 (wrap64 (q + (s5.size : Int)) + (s6.size : Int))
      . go_wp2
        go_quiet (fail)
        all_goals go_wp2
        all_goals (go_ret; exact ⟨false, rfl, (fun h => by cases h), zam HBR.out _⟩)
      . go_wp2
        go_quiet (fail)
        all_goals go_wp2
        all_goals go_roundw
        case rel => exact ⟨k + 1, _, by omega, by go_num, rfl, zam HBR.out _⟩
        case measure => simp [intOf]; omega
    . have hnl : ¬ (k : Int) < (n : Int) := by omega
      go_wp2
      go_ret
      exact ⟨true, rfl, fun _ => hfin, hbr⟩
def zjy (I : World -> Nat -> Nat -> Nat -> Prop) (okK : OpS -> Prop) : Prop :=
 ∀ (B N wb : Nat) (w : World) (o : OpS), I w B N wb -> Glob w -> 0 < B -> B <= w.heap.size -> N <= 16384 -> o.ok -> okK o ->
   Calls Tryz.prog 108 #[.pointer (some ⟨wb, 0, none⟩), .agg o.cells] w fun e w' => e = .returned (.bool true) /\ I w' B (N + 1) wb /\ Below B w w'
def zlo (I : World -> Nat -> Nat -> Nat -> Prop) : Prop := ∀ (w : World), I (w.alloc (.cells #[.slice none 0 0, .slice none 0 0] 186)) w.heap.size 0 w.heap.size
def zvk (I : World -> Nat -> Nat -> Nat -> Prop) (n : Nat) (w : World) (i : Value) (wr : World) : Prop := ∃ k : Nat, k <= n /\ i = .int .i64 k /\ I wr w.heap.size k w.heap.size /\ Below w.heap.size w wr
def zu7 (w : World) : Ending -> World -> Prop := fun e w' => e = .returned (.int .i64 (-1)) /\ Below w.heap.size w w'
theorem zn9 : (Tryz.prog.info? 124).map (·.size) = some 7 := by kernel_rfl
theorem OpS.cells_len (o : OpS) : o.cells.toList.length = 7 := rfl
set_option maxHeartbeats 2000000 in
theorem zsg {I : World -> Nat -> Nat -> Nat -> Prop} {okK : OpS -> Prop} (hI : zjy I okK) (h0 : zlo I) (A : Option Addr) (n c : Nat) (os : List OpS) (w : World) (h : ScAt w w.heap.size A n c os) (hg : Glob w) (hn : n <= 16384) (hok : ∀ o ∈ os, o.ok /\ okK o) :
   Calls Tryz.prog 76 #[.slice A n c] w (zu7 w) := by
 have hnl := h.1
 have hB0 := hg.pos
 have hst := h0 w
 have hb0 : Below w.heap.size w (w.alloc (.cells #[.slice none 0 0, .slice none 0 0] 186)) := (Below.refl _ _).alloc (Nat.le_refl _) _
 have HS := zaa h
 have HG := zaa hg
 have HOK := zaa hok
 have HST := zaa hst
 have HB := zaa hb0
 clear h hg hok hst hb0 h0
 go_enter Tryz.func76, Tryz.ntmps76
 go_wp2
 go_loopw [4] (fun i wr => zvk I n w i wr) (fun i _ => n - (intOf i).toNat)
 case atStart => exact ⟨0, Nat.zero_le _, rfl, HST.out, HB.out⟩
 case round =>
  obtain ⟨k, hk, rfl, hwi, hbr⟩ := hrel
  by_cases hlt : k < n
  . have hkl : k < os.length := by omega
    obtain ⟨b, o, rfl, hlo, hc⟩ := (HS.out.below hbr).2.2.2 (by omega)
    have hr := hc k hkl
    obtain ⟨op, hop⟩ : ∃ op, op = os[k] := ⟨_, rfl⟩
    rw [<- hop] at hr
    have hgr : Glob wr := HG.out.below hbr
    obtain ⟨ok1, ok2⟩ := HOK.out op (hop ▸ List.getElem_mem hkl)
    have HSTEP := zaa (hI w.heap.size k w.heap.size wr op hwi hgr hB0 hbr.size (by omega) ok1 ok2)
    have HR := zaa hr
    have HBR := zaa hbr
    have k1 : (0 : Int) <= (k : Int) := by omega
    have k2 : (k : Int) < (n : Int) := by omega
    clear hwi hbr hr hc hop hgr
    go_wp2_with (first
     | (refine wpList_load_mid rfl 124 (.tmp 17) rfl b (o + k * 7) rfl op.cells.toList _ HR.out Tryz.underlying124 rfl (by rw [zn9, OpS.cells_len]) ?_)
     | (go_at_call 108; refine HSTEP.out.mono ?_; rintro e w' ⟨rfl, hwi', hb'⟩))
    go_roundw
    case rel => exact ⟨k + 1, by omega, by go_num, hwi', HBR.out.trans hb'⟩
    case measure => simp [intOf]; omega
  . have hnl2 : ¬ (k : Int) < (n : Int) := by omega
    have HBR := zaa hbr
    clear hbr hwi
    go_wp2
    go_ret
    exact ⟨rfl, HBR.out⟩
def zd0 (l : List OpS) : List Value := l.flatMap fun o => o.cells.toList
theorem znf (l : List OpS) (o : OpS) : zd0 (l ++ [o]) = zd0 l ++ o.cells.toList := by simp [zd0]
theorem zkd : ∀ (l : List OpS) (k : Nat) (h : k < l.length) (j : Nat) (v : Value), l[k].cells.toList[j]? = some v -> (zd0 l)[k * 7 + j]? = some v
 | [], _, h, _, _, _ => by simp at h
 | o :: l, 0, _, j, v, hv => by
   simp only [List.getElem_cons_zero] at hv
   have hj : j < 7 := by have := (List.getElem?_eq_some_iff.1 hv).1; rwa [OpS.cells_len] at this
   simp only [zd0, List.flatMap_cons, Nat.zero_mul, Nat.zero_add]
   rw [List.getElem?_append_left (by rw [OpS.cells_len]; exact hj)]
   exact hv
 | o :: l, k + 1, h, j, v, hv => by
   have ih := zkd l k (by simpa using h) j v (by simpa using hv)
   simp only [zd0, List.flatMap_cons] at ih ⊢
   rw [List.getElem?_append_right (by rw [OpS.cells_len]; omega), OpS.cells_len, show (k + 1) * 7 + j - 7 = k * 7 + j by omega]
   exact ih
theorem zua (o : OpS) : ∀ u ∈ o.cells.toList, u.oneCell' = true := by
 intro u hu
 simp only [OpS.cells, List.mem_cons, List.not_mem_nil, or_false] at hu
 rcases hu with rfl | rfl | rfl | rfl | rfl | rfl | rfl <;> rfl
theorem ScAt.of_own {w : World} {B n c : Nat} {A : Option Addr} {os : List OpS} (h : w.ownsRow B 124 7 (.slice A n c) n (zd0 os)) (hn : os.length = n) : ScAt w w.heap.size A n c os := by
 obtain ⟨A', c', hv, h1, h2, h3, h4⟩ := zad h
 injection hv with e1 _ e3
 subst e1 e3
 refine ⟨hn, h1, h2, fun h0 => ?_⟩
 cases A with
 | none => have := (h4 rfl).1; omega
 | some a =>
   obtain ⟨hb, hl, e, cur, hc, hz, ht⟩ := h3 a.block rfl
   refine ⟨a.block, 0, e, hl, fun i hi j v hv => ?_⟩
   rw [hc.cell, Nat.zero_add, <- Array.getElem?_toList]
   have := zkd os i hi j v hv
   rw [<- ht, List.getElem?_take] at this
   split at this
   . exact this
   . cases this
theorem zub : (Tryz.prog.info? 124).map (fun i => (i.zero, i.size, i.bytes)) = some (some (.agg #[.int .i64 0, .int .i64 0, .int .i64 0, .int .i64 0, .int .i64 0, .string ⟨#[]⟩, .string ⟨#[]⟩]), 7, 72) := by kernel_rfl
def zvl (okK : OpS -> Prop) (n : Nat) (w : World) (l i : Value) (wr : World) : Prop := ∃ (k : Nat) (fs : List OpS), k <= n /\ i = .int .i64 k /\ wr.ownsRow w.heap.size 124 7 l fs.length (zd0 fs) /\ (∀ f ∈ fs, f.ok /\ okK f) /\ fs.length <= k /\ Below w.heap.size w wr
def inK (kd : Int) (ks : List Int) : Bool := decide (kd < 4) || ks.contains kd
theorem zsh (kd : Int) (ks : List Int) (j : Nat) (h : j < ks.length) : inK kd (ks.take (j + 1)) = (inK kd (ks.take j) || (kd == ks[j])) := by
 unfold inK
 rw [List.take_succ_eq_append_getElem h, List.contains_eq_any_beq, List.any_append, Bool.or_assoc, List.contains_eq_any_beq]
 simp
def zvm (kd : Int) (ks : List Int) (b j : Value) : Prop := ∃ q : Nat, q <= ks.length /\ j = .int .i64 q /\ b = .bool (inK kd (ks.take q))
def zqq (w : World) : Ending -> World -> Prop := fun e w' => e = .returned (.bool true) /\ Below w.heap.size w w'
set_option maxHeartbeats 4000000 in
theorem zqr {I : World -> Nat -> Nat -> Nat -> Prop} {okK : OpS -> Prop} (hI : zjy I okK) (h0 : zlo I) (A : Option Addr) (n c : Nat) (os : List OpS) (gk : Nat) (ks : List Int) (w : World) (h : ScAt w w.heap.size A n c os) (hg : Glob w) (hok : ∀ o ∈ os, o.ok) (hks : Blk w gk 3 (ks.map (Value.int .i64)).toArray) (hkl : ks.length <= 100) (hK : ∀ o : OpS, (o.kind < 4 \/ o.kind ∈ ks) -> okK o) :
   Calls Tryz.prog 48 #[.slice A n c, .slice (some ⟨gk, 0, none⟩) ks.length ks.length] w (zqq w) := by
 obtain ⟨i0, hi0, hi1, hi2, hi3⟩ := info_parts zub
 have hnl := h.1
 have hcn : n <= 9223372036854775807 := Nat.le_trans (Nat.le_trans h.2.1 h.2.2.1) zi4
 have HSM := zaa (zqp A n c os w h)
 have HS := zaa h
 have HG := zaa hg
 have HOK := zaa hok
 have HKS := zaa hks
 have HK := zaa hK
 have HI0 := zaa hi0
 have HI1 := zaa hi1
 have HI2 := zaa hi2
 have HI3 := zaa hi3
 clear h hg hok hks hK hi0 hi1 hi2 hi3
 go_enter Tryz.func48, Tryz.ntmps48
 go_upto_region 4 with (first
  | (go_at_call 75; refine HSM.out.mono ?_; rintro e w1 ⟨r, rfl, hr, hb1⟩; cases r))
 . go_ret
   exact ⟨rfl, hb1⟩
 have hn : n <= 16384 := by simpa using hr
 have HB1 := zaa hb1
 clear hr hb1
 go_wp2
 go_loopw [6, 7] (fun l i wr => zvl okK n w l i wr) (fun _ i _ => n - (intOf i).toNat)
 case atStart => exact ⟨0, [], Nat.zero_le _, rfl, World.ownsRow_nil _ _ _ _, (fun f hf => by cases hf), Nat.zero_le _, HB1.out⟩
 case round =>
  obtain ⟨k, fs, hk, rfl, hown, hfs, hfl, hbr⟩ := hrel
  obtain ⟨Al, cl, rfl, _⟩ := zad hown
  have hgk : Blk w1 gk 3 _ := HKS.out.below HB1.out HKS.out.lt
  by_cases hlt : k < n
  . have hkl2 : k < os.length := by omega
    obtain ⟨b, o, rfl, hlo, hc⟩ := (HS.out.below hbr).2.2.2 (by omega)
    have hr := hc k hkl2
    obtain ⟨op, hop⟩ : ∃ op, op = os[k] := ⟨_, rfl⟩
    rw [<- hop] at hr
    have hK1 : (op.kind < 4 \/ op.kind ∈ ks) -> okK op := HK.out op
    have hop1 : op.ok := HOK.out op (hop ▸ List.getElem_mem hkl2)
    have c0 : wr.cell? ⟨b, o + k * 7, none⟩ = some (.int .i64 op.kind) := hr 0 _ rfl
    have hkr : Blk wr gk 3 (ks.map (Value.int .i64)).toArray := HKS.out.below hbr HKS.out.lt
    have hks' : ∀ q (hq : q < ks.length), wr.cell? ⟨gk, q, none⟩ = some (.int .i64 ks[q]) := fun q hq => by rw [hkr.cell]; simp [hq]
    have HR := zaa hr
    have HOP := zaa hop1
    have HOWN := zaa hown
    have HFS := zaa hfs
    have HBR := zaa hbr
    have HKC := zaa hks'
    have HK1 := zaa hK1
    have k1 : (0 : Int) <= (k : Int) := by omega
    have k2 : (k : Int) < (n : Int) := by omega
    clear hown hfs hbr hr hc hop hop1 hkr hks' hgk hK1
    go_wp2
    go_loop [9, 10] (fun bb j => zvm op.kind ks bb j) (fun _ j => ks.length - (intOf j).toNat)
    case atStart => exact ⟨0, Nat.zero_le _, rfl, by simp [inK]⟩
    case round =>
     obtain ⟨q, hq, rfl, rfl⟩ := hrel
     by_cases hq2 : q < ks.length
     . have hin := zsh op.kind ks q hq2
       have kc := HKC.out q hq2
       obtain ⟨kq, hkq⟩ : ∃ kq, kq = ks[q] := ⟨_, rfl⟩
       rw [<- hkq] at hin kc
       obtain ⟨bo, hbo⟩ : ∃ bo, bo = inK op.kind (ks.take q) := ⟨_, rfl⟩
       rw [<- hbo] at hin ⊢
       have HIN := zaa hin
       have q1 : (q : Int) < (ks.length : Int) := by omega
       have q0 : (0 : Int) <= (q : Int) := by omega
       clear hin hbo hkq
       cases bo with
       | true =>
         go_wp2
         go_round
         case rel => exact ⟨q + 1, by omega, by go_num, by rw [HIN.out]; rfl⟩
         case measure => simp [intOf]; omega
       | false =>
         by_cases hkk : op.kind = kq
         . have e1 : (op.kind == kq) = true := by simpa using hkk
           have E1 := zaa e1
           clear e1
           go_wp2
           go_round
           case rel => exact ⟨q + 1, by omega, by go_num, by rw [HIN.out, E1.out]; simp []⟩
           case measure => simp [intOf]; omega
         . have e1 : (op.kind == kq) = false := by simpa using hkk
           have E1 := zaa e1
           go_wp2
           go_round
           case rel => exact ⟨q + 1, by omega, by go_num, by rw [HIN.out, E1.out]; simp []⟩
           case measure => simp [intOf]; omega
     . obtain rfl : q = ks.length := by omega
       rw [List.take_length]
       have q1 : ¬ (ks.length : Int) < (ks.length : Int) := by omega
       obtain ⟨bo, hbo⟩ : ∃ bo, bo = inK op.kind ks := ⟨_, rfl⟩
       rw [<- hbo]
       have HBO := zaa hbo
       clear hbo
       cases bo with
       | false =>
         go_wp2
         go_roundw
         case rel => exact ⟨k + 1, fs, by omega, by go_num, HOWN.out, HFS.out, by omega, HBR.out⟩
         case measure => simp [intOf]; omega
       | true =>
         have hokk : okK op := HK1.out (by
          have := HBO.out
          unfold inK at this
          simp only [Bool.true_eq, Bool.or_eq_true, decide_eq_true_eq, List.contains_iff_mem] at this
          exact this)
         have HOKK := zaa hokk
         have HOW2 := zaa (znf fs op)
         clear hokk
         obtain ⟨kind, x, y, a, b', s, t⟩ := op
         have hr2 : wr.rangeAt b (o + k * 7) [.int .i64 kind, .int .i64 x, .int .i64 y, .int .i64 a, .int .i64 b', .string s, .string t] := HR.out
         have HR2 := zaa hr2
         have hzr := HBR.out.size
         clear hr2
         go_wp2_with (first
          | (refine wpList_load_mid rfl 124 (.tmp 47) rfl b (o + k * 7) rfl [.int .i64 kind, .int .i64 x, .int .i64 y, .int .i64 a, .int .i64 b', .string s, .string t] _ HR2.out Tryz.underlying124 rfl (by rw [zn9]; rfl) ?_)
          | (at_builtin
             go_loud (
             refine zah _ rfl (.tmp 44) (.tmp 49) 73 rfl w.heap.size 124 i0 _ 7 72 Tryz.underlying73 HI0.out HI1.out HI2.out HI3.out rfl (by decide) (.slice Al fs.length cl) fs.length (zd0 fs) rfl (HOWN.out.alloc _) (wr.heap.size + 1) (some ⟨wr.heap.size, 0, none⟩) 1 1 [.int .i64 kind, .int .i64 x, .int .i64 y, .int .i64 a, .int .i64 b', .string s, .string t] rfl ⟨rfl, fun _ => ⟨_, rfl, Nat.lt_succ_self _, fun j u hu => by rw [Addr.add_lit]; exact (Blk.new wr 124 #[.int .i64 kind, .int .i64 x, .int .i64 y, .int .i64 a, .int .i64 b', .string s, .string t]).range (cur := [.int .i64 kind, .int .i64 x, .int .i64 y, .int .i64 a, .int .i64 b', .string s, .string t]) (o := 0) rfl j u hu⟩⟩ (zua ⟨kind, x, y, a, b', s, t⟩) (by unfold maxLen; omega) (by omega) (by simp only [World.size_alloc]; omega) ?_
             intro v' w3 hown3 hgr3 hat3
             have HOWN3 := zaa hown3
             have HB3 := zaa ((HBR.out.alloc hzr _).grown hgr3 (by simp only [World.size_alloc]; omega) (fun g e => (zaz HOWN.out e).1))
             clear hown3 hgr3 hat3)))
         go_roundw
         case rel =>
          refine ⟨k + 1, fs ++ [⟨kind, x, y, a, b', s, t⟩], by omega, by go_num, ?_, ?_, by rw [List.length_append]; simp only [List.length_cons, List.length_nil]; omega, HB3.out⟩
          . rw [List.length_append, HOW2.out]
            exact HOWN3.out
          . intro f hf
            rcases List.mem_append.1 hf with hf | hf
            . exact HFS.out f hf
            . rw [List.mem_singleton.1 hf]; exact ⟨HOP.out, HOKK.out⟩
         case measure => simp [intOf]; omega
  . have k2 : ¬ (k : Int) < (n : Int) := by omega
    have HU := zaa (zsg hI h0 Al fs.length cl fs wr (ScAt.of_own hown rfl) (HG.out.below hbr) (by omega) hfs)
    have HBR := zaa hbr
    clear hown hfs hbr hgk
    go_wp2_with (go_at_call 76; refine HU.out.mono ?_; rintro e w' ⟨rfl, hb'⟩)
    go_ret
    exact ⟨rfl, HBR.out.trans (hb'.mono HBR.out.size)⟩
end Go.Proofs.YtemondlgcmpbbaaGreatDoor
