/- Zd Bv Ze: merged. -/
import Derived.Test.YtemondlgcmpbbaaGreatDoorMX27
import Derived.Test.YtemondlgcmpbbaaGreatDoorMX26
import Derived.Deep.RegionHeld3
import Derived.Test.YtemondlgcmpbbaaGreatDoorMX23
namespace Go.Proofs.YtemondlgcmpbbaaGreatDoor
open Go.RowKit
set_option maxRecDepth 100000
def zcb (b : Bool) (ts : List TxI) : Nat := (ts.filter fun τ => !τ.done && (τ.wr == b)).length
theorem zmo (ts : List TxI) : zcb true ts = (wrL ts).length := by
 unfold zcb wrL
 rw [List.length_map]
 congr 2
 funext τ
 cases τ.wr <;> cases τ.done <;> rfl
theorem zmp (ts : List TxI) : zcb false ts = (rdL ts).length := by
 unfold zcb rdL
 rw [List.length_map]
 congr 2
 funext τ
 cases τ.wr <;> cases τ.done <;> rfl
theorem zjo (b : Bool) (ts : List TxI) (j : Nat) (hj : j < ts.length) : zcb b (ts.take (j + 1)) = zcb b (ts.take j) + (if (!ts[j].done && (ts[j].wr == b)) = true then 1 else 0) := by
 unfold zcb
 rw [List.take_add_one, List.getElem?_eq_getElem hj, List.filter_append, List.length_append]
 simp only [Option.toList_some, List.filter_cons, List.filter_nil]
 split <;> rfl
theorem zmq (b : Bool) (ts : List TxI) (j : Nat) : zcb b (ts.take j) <= j := by
 unfold zcb
 have := List.length_filter_le (fun τ : TxI => !τ.done && (τ.wr == b)) (ts.take j)
 rw [List.length_take] at this
 omega
def RowL (W : World) (tsv : Value) (ts : List TxI) : Prop := ∃ A c, tsv = .slice A ts.length c /\ ts.length <= c /\ ∀ j (h : j < ts.length), ∃ g, A = some ⟨g, 0, none⟩ /\ W.cell? ⟨g, j, none⟩ = some (pkv ts[j].l) /\ zeg W ts[j]
theorem zga {W : World} {B n c : Nat} {T : TypeId} {A : Option Addr} {xs : List Value} (h : W.ownsRow B T 1 (.slice A n c) n xs) : ∀ j v, xs[j]? = some v -> ∃ g, A = some ⟨g, 0, none⟩ /\ W.cell? ⟨g, j, none⟩ = some v := by
 intro j v hj
 have hl := h.1
 have hjl : j < xs.length := (List.getElem?_eq_some_iff.1 hj).1
 obtain ⟨ad, e, _, hc⟩ := (Reads.of_own h).2 (by omega)
 obtain ⟨g, o, i⟩ := ad
 obtain ⟨_, _, hv, _, _, hrow, _⟩ := zad h
 injection hv with ea
 subst e
 obtain ⟨_, _, e2, _⟩ := hrow g rfl
 rw [<- ea] at e2
 injection e2 with e2
 injection e2 with _ eo ei
 subst eo ei
 exact ⟨g, rfl, by have := hc j v hj; rwa [Addr.add_lit, Nat.zero_add] at this⟩
theorem RowL.of {W : World} {x B N : Nat} {tsv : Value} {ts : List TxI} (h : W.ownsRow B 247 1 tsv ts.length (ts.map fun τ => pkv τ.l)) (he : ∀ τ ∈ ts, TxOk W x B N τ) : RowL W tsv ts := by
 obtain ⟨A, c, rfl, hc, _⟩ := zad h
 refine ⟨A, c, rfl, hc, fun j hj => ?_⟩
 obtain ⟨g, h1, h2⟩ := zga h j (pkv ts[j].l) (by simp [hj])
 exact ⟨g, h1, h2, (he _ (List.getElem_mem hj)).law⟩
section
variable {w : World} {B N b n : Nat} {σ : StI}
theorem StOk.parts (h : StOk w B N b n σ) {fp : Nat -> Prop} {w' : World} (ho : Only fp w w') (hk : KF fp w) (hf : ∀ y, y ∈ σ.tsv.ownBlock.toList \/ y ∈ σ.ts.flatMap TxI.own -> ¬ fp y) :
   w'.ownsRow B 247 1 σ.tsv σ.ts.length (σ.ts.map fun τ => pkv τ.l) /\ ∀ τ ∈ σ.ts, TxOk w' σ.x B N τ :=
 ⟨za2 h.row ho fun g hg => hf g (.inl (by rw [hg]; simp)), fun τ hτ => (h.each τ hτ).only ho hk fun y hy => hf y (.inr (List.mem_flatMap.2 ⟨τ, hτ, hy⟩))⟩
theorem StI.ne_xr (hn : σ.own.Nodup) {y : Nat} (hy : y ∈ σ.tsv.ownBlock.toList \/ y ∈ σ.ts.flatMap TxI.own) : ¬ (y = σ.x \/ y = σ.rd) := by
 unfold StI.own at hn
 simp only [List.nodup_cons, List.mem_cons, List.mem_append] at hn
 obtain ⟨h1, h2, _⟩ := hn
 rintro (e | e) <;> subst e
 . exact h1 (.inr hy)
 . exact h2 hy
end
theorem zs5 : (Tryz.prog.info? 247).map (fun i => (i.zero, i.size, i.bytes)) = some (some (.pointer none), 1, 8) := by kernel_rfl
section
variable {w : World} {B N b n p : Nat} {s : LdS} {bv cv : Value} {m : Nums} {σ : StI}
def BegunTo (w w' : World) (B p : Nat) (s : LdS) (σ : StI) (write : Bool) (S' : Nat -> DbS) (ks' : Nat -> List Nat) : Prop :=
 ∃ t l tsv', TxAt w' t ⟨σ.x, .pointer none, 0, write, false, 0⟩ /\ zeg w' ⟨l, t, write, false, 0, 0, ⟨none, 0⟩, .pointer none, [], .slice none 0 0, .slice none 0 0, []⟩ /\ DbAt w' σ.x (S' t) /\ RdAt w' σ.rd (ks' t) /\
   w'.ownsRow B 247 1 tsv' (σ.ts.length + 1) ((σ.ts.map fun τ => pkv τ.l) ++ [pkv l]) /\ (∀ g, tsv'.ownBlock = some g -> σ.tsv.ownBlock = some g \/ w.heap.size <= g) /\ LdAt w' p { s with ts := tsv' } /\ w.heap.size <= t /\ w.heap.size <= l /\ Only (fun y => y = p \/ y = σ.x \/ y = σ.rd \/ some y = σ.tsv.ownBlock) w w'
set_option maxHeartbeats 4000000 in
theorem zmr (write : Bool) (S' : Nat -> DbS) (ks' : Nat -> List Nat) (hl : LdAt w p s) (hpoi : s.poi = false) (hdev : DkAt w s.db bv cv m) (hsx : s.x = pkv σ.x) (hsc : s.c = .slice none 0 0) (hcm : s.commits = 0) (hts : s.ts = σ.tsv) (hσ : StOk w B N b n σ) (hn : σ.own.Nodup) (hwB : B <= w.heap.size) (hN : N <= 16384)
   (hcnt : (write = true /\ zcb true σ.ts = 0) \/ (write = false /\ zcb false σ.ts < 4))
   (hB : Calls Tryz.prog 22 #[pkv σ.x, .bool write] w fun e w1 => ∃ t, e = .returned (.tuple #[pkv t, .nilIface]) /\ TxAt w1 t ⟨σ.x, .pointer none, 0, write, false, 0⟩ /\ DbAt w1 σ.x (S' t) /\ RdAt w1 σ.rd (ks' t) /\ w.heap.size <= t /\ Only (fun y => y = σ.x \/ y = σ.rd) w w1) :
   Calls Tryz.prog 150 #[pkv p, .bool write] w fun e w' => e = .returned (.bool true) /\ BegunTo w w' B p s σ write S' ks' := by
 obtain ⟨i0, hi0, hi1, hi2, hi3⟩ := info_parts zs5
 have hlen := hσ.len
 have hpx : p ≠ σ.x := Blk.ne_ hl hσ.db (by decide)
 have hpr : σ.rd ≠ p := hσ.rd.ne_blk hl
 obtain ⟨x, dk, rd, tsv, ts⟩ := σ
 obtain ⟨db, nn, may, emp, were, wild, bit, xv, c, commits, poi, tsv', lists, want⟩ := s
 simp only at hpoi hdev hsx hsc hcm hts hcnt hlen hpx hpr
 subst hpoi hsx hsc hcm hts
 obtain ⟨A, cap, hv, hcap, hcapm, hv2⟩ := zad hσ.row
 simp only at hv hcap hB
 subst hv
 clear hv2
 have HT := zaa (zbc db bv cv m w hdev)
 have k0 := (zar hl).1
 have k7 := (zbi hl).1
 have hxk : ∀ y, (y = x \/ y = rd) -> OwnB w y := fun y hy => hσ.own y (by rcases hy with rfl | rfl <;> simp [StI.own])
 have HPARTS := zaa (fun W (ho : Only (fun y => y = x \/ y = rd) w W) => hσ.parts ho (KF.of hxk) (fun y hy => StI.ne_xr hn hy))
 have HL := zaa (fun W (ho : Only (fun y => y = x \/ y = rd) w W) => Blk.only hl ho (fun e => by rcases e with e | e; exact hpx e; exact hpr e.symm))
 have HI0 := zaa hi0
 have HI1 := zaa hi1
 have HI2 := zaa hi2
 have HI3 := zaa hi3
 have HXK := zaa hxk
 have hpl : p < w.heap.size := hl.lt
 unfold pkv at hB k7 ⊢
 have HB := zaa hB
 clear hB hσ hl hdev hi0 hi1 hi2 hi3 hxk hn
 go_enter Tryz.func150, Tryz.ntmps150
 go_wp2_with (first
  | (go_at_call 178; refine HT.out.mono ?_; rintro e w' ⟨rfl, rfl⟩)
  | (go_at_call 22; go_loud (
     refine HB.out.mono ?_; rintro e w1 ⟨t, rfl, hT1, hD1, hR1, htz, ho1⟩
     obtain ⟨hrow1, heach1⟩ := HPARTS.out w1 ho1
     have hl1 := HL.out w1 ho1
     obtain ⟨_, _, hAA, _, hcells⟩ := RowL.of hrow1 heach1
     injection hAA with e1 e2 e3
     subst e1
     subst e3
     clear e2
     obtain ⟨m7, m8, m9, m10, m11, hm1⟩ := zbi hl1
     clear hm1
     clear k0 k7
     have HT1 := zaa hT1
     have HD1 := zaa hD1
     have HR1 := zaa hR1
     have HTZ := zaa htz
     have HO1 := zaa ho1
     have HROW1 := zaa hrow1
     have HC1 := zaa hcells
     have HL1 := zaa hl1
     clear hT1 hD1 hR1 htz ho1 hrow1 heach1 hcells hl1))
  | (go_at_call 30; refine (zcq _).mono ?_; rintro e w' ⟨rfl, rfl⟩)
  | (go_at_call 179; refine (za6 _ _).mono ?_; rintro e w' ⟨rfl, rfl⟩))
 go_loopw [10, 11] (fun cn iv wr => ∃ j : Nat, j <= ts.length /\ iv = .int .i64 j /\ cn = .int .i64 (zcb write (ts.take j) : Nat) /\ wr = w1) (fun _ iv _ => ts.length - (intOf iv).toNat)
 case atStart => exact ⟨0, Nat.zero_le _, rfl, rfl, rfl⟩
 case round =>
  obtain ⟨j, hj, rfl, rfl, rfl⟩ := hrel
  by_cases hlt : j < ts.length
  . obtain ⟨g, rfl, hc, hlj⟩ := HC1.out j hlt
    have hle := zmq write ts j
    have htk := zjo write ts j hlt
    obtain ⟨τ, hτ⟩ : ∃ τ, τ = ts[j] := ⟨_, rfl⟩
    rw [<- hτ] at hc hlj htk
    unfold pkv at hc
    have q2 := zab hlj 2 rfl
    have q3 := zab hlj 3 rfl
    obtain ⟨dn, hdn⟩ : ∃ dn, dn = τ.done := ⟨_, rfl⟩
    obtain ⟨wr, hwr⟩ : ∃ wr, wr = τ.wr := ⟨_, rfl⟩
    obtain ⟨cN, hcN⟩ : ∃ cN, cN = zcb write (ts.take j) := ⟨_, rfl⟩
    rw [<- hdn] at q3 htk
    rw [<- hwr] at q2 htk
    rw [<- hcN] at htk hle ⊢
    have HTK := zaa htk
    have n0 : (0 : Int) <= (j : Int) := by omega
    have n1 : (j : Int) < (ts.length : Int) := by omega
    clear htk hτ hdn hwr hcN
    cases dn with
    | true =>
      go_wp2
      go_roundw
      case rel => exact ⟨j + 1, by omega, by go_num, by rw [HTK.out]; simp, trivial⟩
      case measure => simp [intOf]; omega
    | false =>
      cases hw : (wr == write) with
      | true =>
        go_wp2
        go_roundw
        case rel => exact ⟨j + 1, by omega, by go_num, by rw [HTK.out, hw]; simp, trivial⟩
        case measure => simp [intOf]; omega
      | false =>
        go_wp2
        go_roundw
        case rel => exact ⟨j + 1, by omega, by go_num, by rw [HTK.out, hw]; simp, trivial⟩
        case measure => simp [intOf]; omega
  . have hjl : j = ts.length := by omega
    subst hjl
    have n1 : ¬ (ts.length : Int) < (ts.length : Int) := by omega
    rw [List.take_length]
    obtain ⟨cN, hcN⟩ : ∃ cN, cN = zcb write ts := ⟨_, rfl⟩
    rw [<- hcN]
    have hc4 : (write = true /\ cN = 0) \/ (write = false /\ cN < 4) := by
     rcases hcnt with ⟨rfl, h⟩ | ⟨rfl, h⟩
     . exact .inl ⟨rfl, hcN.trans h⟩
     . exact .inr ⟨rfl, hcN ▸ h⟩
    clear hcnt hcN
    rcases hc4 with ⟨rfl, rfl⟩ | ⟨rfl, hc4⟩
    . have n4 : ¬ ((0 : Nat) : Int) = 4 := by omega
      have n5 : (((0 : Nat) : Int) == 4) = false := rfl
      go_wp2
      go_region_held3 (fun w' => w'.cell? ⟨p, 8, none⟩ = some (.slice none 0 0) /\ w'.cell? ⟨p, 9, none⟩ = some (.int .i64 0)) (first | go_keep | exact ⟨m8, m9⟩) (fail)
      obtain ⟨W2, hW2⟩ : ∃ W2, W2 = (wr.alloc (.cells #[.pointer (some ⟨t, 0, none⟩), .slice none 0 0, .bool true, .bool false, .int .i64 0, .int .i64 0, .int .i64 0, .int .i64 0, .slice none 0 0] 273)).drew := ⟨_, rfl⟩
      rw [<- hW2]
      have hb2 : Below wr.heap.size wr W2 := by rw [hW2]; exact Below.drew ((Below.refl _ _).alloc (Nat.le_refl _) _)
      have hs2 : W2.heap.size = wr.heap.size + 1 := by rw [hW2]; exact World.size_alloc _ _
      have hlt2 : Blk W2 wr.heap.size 273 #[.pointer (some ⟨t, 0, none⟩), .slice none 0 0, .bool true, .bool false, .int .i64 0, .int .i64 0, .int .i64 0, .int .i64 0, .slice none 0 0] := by rw [hW2]; exact (Blk.new _ _ _).drew
      have hl2 := Blk.below HL1.out hb2 (Blk.lt HL1.out)
      have hrow2 := zap HROW1.out hb2
      obtain ⟨_, _, _, _, o11, ho1'⟩ := zbi hl2
      clear ho1'
      have c11' := fun o => zaj o o11
      have HS2 := zaa hs2
      have HLT2 := zaa hlt2
      have HL2 := zaa hl2
      have HROW2 := zaa hrow2
      have HB2 := zaa hb2
      clear hs2 hlt2 hl2 hrow2 hb2 hW2 m7 m8 m9 m10 m11
      go_wp2_with (at_builtin; go_loud (
       refine zah _ rfl (.tmp 129) (.tmp 131) 242 rfl B 247 i0 (.pointer none) 1 8 Tryz.underlying242 HI0.out HI1.out HI2.out HI3.out rfl (by decide) (.slice A ts.length cap) ts.length (ts.map fun τ => pkv τ.l) (by kernel_rfl) (HROW2.out.alloc _) (W2.heap.size + 1) (some ⟨W2.heap.size, 0, none⟩) 1 1 [.pointer (some ⟨wr.heap.size, 0, none⟩)] (by kernel_rfl) ⟨rfl, fun _ => ⟨_, rfl, Nat.lt_succ_self _, fun j u hu => by rw [Addr.add_lit]; exact (Blk.new W2 247 #[.pointer (some ⟨wr.heap.size, 0, none⟩)]).range (cur := [.pointer (some ⟨wr.heap.size, 0, none⟩)]) (o := 0) rfl j u hu⟩⟩ (fun u hu => by rw [List.mem_singleton.1 hu]; rfl) (by unfold maxLen; omega) (by omega) (by have := HB2.out.size; have := HO1.out.size; simp only [World.size_alloc]; omega) ?_
       intro v' w4 hown4 hgr4 hat4
       obtain ⟨A4, c4, hv4, hv5⟩ := zad hown4
       clear hv5
       subst hv4
       have hopl : some p ≠ (Value.slice A ts.length cap).ownBlock := fun e => zae HROW2.out HL2.out (by decide) e.symm
       have hl4 : Blk w4 p 245 _ := (Blk.alloc HL2.out _).grown hgr4 hopl
       have f11 : w4.frozen? ⟨p, 11, none⟩ = false := hl4.frozen 11
       have o11' : w4.cell? ⟨p, 11, none⟩ = some (.slice A ts.length cap) := zab hl4 11 rfl
       have HL4 := zaa hl4
       have HOWN4 := zaa hown4
       have HGR4 := zaa hgr4
       have HAT4 := zaa hat4
       clear hl4 hown4 hgr4 hat4 o11 c11'))
      go_ret
      have hs2 := HS2.out
      have hb2 := HB2.out
      have hz1 := HO1.out.size
      have hx1 : ∀ y, (y = x \/ y = rd) -> y < w.heap.size := fun y hy => (HXK.out y hy).lt
      have hoA : Only (fun y => some y = (Value.slice A ts.length cap).ownBlock) W2 w4 := Only.grown ((Only.refl _ _).alloc _) HGR4.out (fun g e => .inl e.symm)
      have hfA : ∀ {y : Nat} {T : TypeId} {cs : Array Value}, Blk W2 y T cs -> T ≠ 247 -> ¬ some y = (Value.slice A ts.length cap).ownBlock := fun hy hT e => zae HROW2.out hy hT.symm e.symm
      have ho5 : Only (· = p) w4 (w4.setCell ⟨p, 11, none⟩ (.slice A4 (ts.length + 1) c4)) := Only.set1 _ _ _ _
      obtain ⟨W5, hW5⟩ : ∃ W5, W5 = w4.setCell ⟨p, 11, none⟩ (.slice A4 (ts.length + 1) c4) := ⟨_, rfl⟩
      have hl5 := HL4.out.set_ 11 (.slice A4 (ts.length + 1) c4)
      rw [<- hW5] at hl5
      show _ /\ BegunTo w (w4.setCell ⟨p, 11, none⟩ (.slice A4 (ts.length + 1) c4)) B p _ _ _ S' ks'
      rw [<- hW5] at ho5 ⊢
      have hfp : ∀ {y : Nat} {T : TypeId} {cs : Array Value}, Blk w4 y T cs -> T ≠ 245 -> ¬ y = p := fun hy hT e => by subst e; exact Blk.ne_ hy HL4.out hT rfl
      have hlt4 := Blk.only HLT2.out hoA (hfA HLT2.out (by decide))
      have hT2 := Blk.below HT1.out hb2 (Blk.lt HT1.out)
      have hT4 := Blk.only hT2 hoA (hfA hT2 (by decide))
      have hD2 := Blk.below HD1.out hb2 (Blk.lt HD1.out)
      have hD4 := Blk.only hD2 hoA (hfA hD2 (by decide))
      have hR2 := HR1.out.only (fp := fun _ => False) (Only.of_below hb2) id
      have hR4 := hR2.only hoA (fun e => by
       obtain ⟨_, _, hv, _, _, hrow, _⟩ := zad HROW2.out
       obtain ⟨_, _, _, cur, hb, _⟩ := hrow rd e.symm
       exact hR2.ne_blk hb rfl)
      refine ⟨rfl, t, wr.heap.size, .slice A4 (ts.length + 1) c4, Blk.only hT4 ho5 (hfp hT4 (by decide)), Blk.only hlt4 ho5 (hfp hlt4 (by decide)), Blk.only hD4 ho5 (hfp hD4 (by decide)), hR4.only ho5 (fun e => hR4.ne_blk HL4.out e), zak HOWN4.out ho5 (fun z cs hz => hfp hz (by decide)), ?_, hl5, HTZ.out, hz1, ?_⟩
      . intro g hg
        rcases HAT4.out with e | e
        . exact .inl (by rw [<- e]; exact hg)
        . rw [hg] at e
          injection e with e
          rw [World.size_alloc] at e
          exact .inr (by omega)
      . have o1 : Only (fun y => y = p \/ y = x \/ y = rd \/ some y = (Value.slice A ts.length cap).ownBlock) w wr := HO1.out.mono fun y _ hy => by rcases hy with e | e; exact .inr (.inl e); exact .inr (.inr (.inl e))
        exact ((o1.below hb2).trans (hoA.mono fun y _ hy => .inr (.inr (.inr hy)))).trans (ho5.mono fun y _ hy => .inl hy)
    . have n4 : ¬ (cN : Int) = 4 := by omega
      have n5 : ((cN : Int) == 4) = false := by simpa using n4
      go_wp2
      go_region_held3 (fun w' => w'.cell? ⟨p, 8, none⟩ = some (.slice none 0 0) /\ w'.cell? ⟨p, 9, none⟩ = some (.int .i64 0)) (first | go_keep | exact ⟨m8, m9⟩) (fail)
      obtain ⟨W2, hW2⟩ : ∃ W2, W2 = (wr.alloc (.cells #[.pointer (some ⟨t, 0, none⟩), .slice none 0 0, .bool false, .bool false, .int .i64 0, .int .i64 0, .int .i64 0, .int .i64 0, .slice none 0 0] 273)).drew := ⟨_, rfl⟩
      rw [<- hW2]
      have hb2 : Below wr.heap.size wr W2 := by rw [hW2]; exact Below.drew ((Below.refl _ _).alloc (Nat.le_refl _) _)
      have hs2 : W2.heap.size = wr.heap.size + 1 := by rw [hW2]; exact World.size_alloc _ _
      have hlt2 : Blk W2 wr.heap.size 273 #[.pointer (some ⟨t, 0, none⟩), .slice none 0 0, .bool false, .bool false, .int .i64 0, .int .i64 0, .int .i64 0, .int .i64 0, .slice none 0 0] := by rw [hW2]; exact (Blk.new _ _ _).drew
      have hl2 := Blk.below HL1.out hb2 (Blk.lt HL1.out)
      have hrow2 := zap HROW1.out hb2
      obtain ⟨_, _, _, _, o11, ho1'⟩ := zbi hl2
      clear ho1'
      have c11' := fun o => zaj o o11
      have HS2 := zaa hs2
      have HLT2 := zaa hlt2
      have HL2 := zaa hl2
      have HROW2 := zaa hrow2
      have HB2 := zaa hb2
      clear hs2 hlt2 hl2 hrow2 hb2 hW2 m7 m8 m9 m10 m11
      go_wp2_with (at_builtin; go_loud (
       refine zah _ rfl (.tmp 129) (.tmp 131) 242 rfl B 247 i0 (.pointer none) 1 8 Tryz.underlying242 HI0.out HI1.out HI2.out HI3.out rfl (by decide) (.slice A ts.length cap) ts.length (ts.map fun τ => pkv τ.l) (by kernel_rfl) (HROW2.out.alloc _) (W2.heap.size + 1) (some ⟨W2.heap.size, 0, none⟩) 1 1 [.pointer (some ⟨wr.heap.size, 0, none⟩)] (by kernel_rfl) ⟨rfl, fun _ => ⟨_, rfl, Nat.lt_succ_self _, fun j u hu => by rw [Addr.add_lit]; exact (Blk.new W2 247 #[.pointer (some ⟨wr.heap.size, 0, none⟩)]).range (cur := [.pointer (some ⟨wr.heap.size, 0, none⟩)]) (o := 0) rfl j u hu⟩⟩ (fun u hu => by rw [List.mem_singleton.1 hu]; rfl) (by unfold maxLen; omega) (by omega) (by have := HB2.out.size; have := HO1.out.size; simp only [World.size_alloc]; omega) ?_
       intro v' w4 hown4 hgr4 hat4
       obtain ⟨A4, c4, hv4, hv5⟩ := zad hown4
       clear hv5
       subst hv4
       have hopl : some p ≠ (Value.slice A ts.length cap).ownBlock := fun e => zae HROW2.out HL2.out (by decide) e.symm
       have hl4 : Blk w4 p 245 _ := (Blk.alloc HL2.out _).grown hgr4 hopl
       have f11 : w4.frozen? ⟨p, 11, none⟩ = false := hl4.frozen 11
       have o11' : w4.cell? ⟨p, 11, none⟩ = some (.slice A ts.length cap) := zab hl4 11 rfl
       have HL4 := zaa hl4
       have HOWN4 := zaa hown4
       have HGR4 := zaa hgr4
       have HAT4 := zaa hat4
       clear hl4 hown4 hgr4 hat4 o11 c11'))
      go_ret
      have hs2 := HS2.out
      have hb2 := HB2.out
      have hz1 := HO1.out.size
      have hx1 : ∀ y, (y = x \/ y = rd) -> y < w.heap.size := fun y hy => (HXK.out y hy).lt
      have hoA : Only (fun y => some y = (Value.slice A ts.length cap).ownBlock) W2 w4 := Only.grown ((Only.refl _ _).alloc _) HGR4.out (fun g e => .inl e.symm)
      have hfA : ∀ {y : Nat} {T : TypeId} {cs : Array Value}, Blk W2 y T cs -> T ≠ 247 -> ¬ some y = (Value.slice A ts.length cap).ownBlock := fun hy hT e => zae HROW2.out hy hT.symm e.symm
      have ho5 : Only (· = p) w4 (w4.setCell ⟨p, 11, none⟩ (.slice A4 (ts.length + 1) c4)) := Only.set1 _ _ _ _
      obtain ⟨W5, hW5⟩ : ∃ W5, W5 = w4.setCell ⟨p, 11, none⟩ (.slice A4 (ts.length + 1) c4) := ⟨_, rfl⟩
      have hl5 := HL4.out.set_ 11 (.slice A4 (ts.length + 1) c4)
      rw [<- hW5] at hl5
      show _ /\ BegunTo w (w4.setCell ⟨p, 11, none⟩ (.slice A4 (ts.length + 1) c4)) B p _ _ _ S' ks'
      rw [<- hW5] at ho5 ⊢
      have hfp : ∀ {y : Nat} {T : TypeId} {cs : Array Value}, Blk w4 y T cs -> T ≠ 245 -> ¬ y = p := fun hy hT e => by subst e; exact Blk.ne_ hy HL4.out hT rfl
      have hlt4 := Blk.only HLT2.out hoA (hfA HLT2.out (by decide))
      have hT2 := Blk.below HT1.out hb2 (Blk.lt HT1.out)
      have hT4 := Blk.only hT2 hoA (hfA hT2 (by decide))
      have hD2 := Blk.below HD1.out hb2 (Blk.lt HD1.out)
      have hD4 := Blk.only hD2 hoA (hfA hD2 (by decide))
      have hR2 := HR1.out.only (fp := fun _ => False) (Only.of_below hb2) id
      have hR4 := hR2.only hoA (fun e => by
       obtain ⟨_, _, hv, _, _, hrow, _⟩ := zad HROW2.out
       obtain ⟨_, _, _, cur, hb, _⟩ := hrow rd e.symm
       exact hR2.ne_blk hb rfl)
      refine ⟨rfl, t, wr.heap.size, .slice A4 (ts.length + 1) c4, Blk.only hT4 ho5 (hfp hT4 (by decide)), Blk.only hlt4 ho5 (hfp hlt4 (by decide)), Blk.only hD4 ho5 (hfp hD4 (by decide)), hR4.only ho5 (fun e => hR4.ne_blk HL4.out e), zak HOWN4.out ho5 (fun z cs hz => hfp hz (by decide)), ?_, hl5, HTZ.out, hz1, ?_⟩
      . intro g hg
        rcases HAT4.out with e | e
        . exact .inl (by rw [<- e]; exact hg)
        . rw [hg] at e
          injection e with e
          rw [World.size_alloc] at e
          exact .inr (by omega)
      . have o1 : Only (fun y => y = p \/ y = x \/ y = rd \/ some y = (Value.slice A ts.length cap).ownBlock) w wr := HO1.out.mono fun y _ hy => by rcases hy with e | e; exact .inr (.inl e); exact .inr (.inr (.inl e))
        exact ((o1.below hb2).trans (hoA.mono fun y _ hy => .inr (.inr (.inr hy)))).trans (ho5.mono fun y _ hy => .inl hy)
set_option maxHeartbeats 4000000 in
theorem zms (write : Bool) (hl : LdAt w p s) (hpoi : s.poi = false) (hdev : DkAt w s.db bv cv m) (hsx : s.x = pkv σ.x) (hsc : s.c = .slice none 0 0) (hcm : s.commits = 0) (hts : s.ts = σ.tsv) (hσ : StOk w B N b n σ) (hn : σ.own.Nodup) (_hwB : B <= w.heap.size) (hN : N <= 16384)
   (hcnt : (write = true /\ 0 < zcb true σ.ts) \/ (write = false /\ zcb false σ.ts = 4)) (hg : Glob w)
   (hB : Calls Tryz.prog 22 #[pkv σ.x, .bool write] w fun e w1 => ∃ f, e = .returned (.tuple #[.pointer none, zag f]) /\ zao w1 f zf9 4 /\ Below w.heap.size w w1) :
   Calls Tryz.prog 150 #[pkv p, .bool write] w fun e w' => e = .returned (.bool true) /\ Below w.heap.size w w' := by
 have hlen := hσ.len
 have hpx : p ≠ σ.x := Blk.ne_ hl hσ.db (by decide)
 have hpr : σ.rd ≠ p := hσ.rd.ne_blk hl
 obtain ⟨x, dk, rd, tsv, ts⟩ := σ
 obtain ⟨db, nn, may, emp, were, wild, bit, xv, c, commits, poi, tsv', lists, want⟩ := s
 simp only at hpoi hdev hsx hsc hcm hts hcnt hlen hpx hpr
 subst hpoi hsx hsc hcm hts
 obtain ⟨A, cap, hv, hcap, hcapm, hv2⟩ := zad hσ.row
 simp only at hv hcap hB
 subst hv
 clear hv2
 have HT := zaa (zbc db bv cv m w hdev)
 have k0 := (zar hl).1
 have k7 := (zbi hl).1
 have HPARTS := zaa (fun W (hb : Below w.heap.size w W) => hσ.parts (fp := fun _ => False) (Only.of_below hb) (fun _ _ _ _ _ => id) (fun _ _ => id))
 have HL := zaa (fun W (hb : Below w.heap.size w W) => Blk.below hl hb hl.lt)
 have hpl : p < w.heap.size := hl.lt
 unfold pkv at hB k7 ⊢
 have HB := zaa hB
 have HG := zaa (fun W (hb : Below w.heap.size w W) => hg.only (fp := fun _ => False) (Only.of_below hb) id)
 clear hB hσ hl hdev hn hg
 go_enter Tryz.func150, Tryz.ntmps150
 go_wp2_with (first
  | (go_at_call 178; refine HT.out.mono ?_; rintro e w' ⟨rfl, rfl⟩)
  | (go_at_call 22; go_loud (
     refine HB.out.mono ?_; rintro e w1 ⟨f, rfl, hf, hb1⟩
     have HTF := zaa (zbl f 4 _ w1 hf (HG.out _ hb1))
     have HB1 := zaa hb1
     clear k0 k7 hf hb1
     unfold zag at HTF
     unfold zag))
  | (go_at_call 30; go_loud (
     refine HTF.out.mono ?_; rintro e w2 ⟨rfl, hb2⟩
     have hb := HB1.out.trans (hb2.mono HB1.out.size)
     obtain ⟨hrow1, heach1⟩ := HPARTS.out w2 hb
     have hl1 := HL.out w2 hb
     obtain ⟨_, _, hAA, _, hcells⟩ := RowL.of hrow1 heach1
     injection hAA with e1 e2 e3
     subst e1
     subst e3
     clear e2
     obtain ⟨m7, m8, m9, m10, m11, hm1⟩ := zbi hl1
     clear hm1
     have HB2 := zaa hb
     have HC1 := zaa hcells
     clear hb hb2 hrow1 heach1 hcells hl1))
  | (go_at_call 179; refine (za6 _ _).mono ?_; rintro e w' ⟨rfl, rfl⟩))
 go_loopw [10, 11] (fun cn iv wr => ∃ j : Nat, j <= ts.length /\ iv = .int .i64 j /\ cn = .int .i64 (zcb write (ts.take j) : Nat) /\ wr = w2) (fun _ iv _ => ts.length - (intOf iv).toNat)
 case atStart => exact ⟨0, Nat.zero_le _, rfl, rfl, rfl⟩
 case round =>
  obtain ⟨j, hj, rfl, rfl, rfl⟩ := hrel
  by_cases hlt : j < ts.length
  . obtain ⟨g, rfl, hc, hlj⟩ := HC1.out j hlt
    have hle := zmq write ts j
    have htk := zjo write ts j hlt
    obtain ⟨τ, hτ⟩ : ∃ τ, τ = ts[j] := ⟨_, rfl⟩
    rw [<- hτ] at hc hlj htk
    unfold pkv at hc
    have q2 := zab hlj 2 rfl
    have q3 := zab hlj 3 rfl
    obtain ⟨dn, hdn⟩ : ∃ dn, dn = τ.done := ⟨_, rfl⟩
    obtain ⟨wr, hwr⟩ : ∃ wr, wr = τ.wr := ⟨_, rfl⟩
    obtain ⟨cN, hcN⟩ : ∃ cN, cN = zcb write (ts.take j) := ⟨_, rfl⟩
    rw [<- hdn] at q3 htk
    rw [<- hwr] at q2 htk
    rw [<- hcN] at htk hle ⊢
    have HTK := zaa htk
    have n0 : (0 : Int) <= (j : Int) := by omega
    have n1 : (j : Int) < (ts.length : Int) := by omega
    clear htk hτ hdn hwr hcN
    cases dn with
    | true =>
      go_wp2
      go_roundw
      case rel => exact ⟨j + 1, by omega, by go_num, by rw [HTK.out]; simp, trivial⟩
      case measure => simp [intOf]; omega
    | false =>
      cases hw : (wr == write) with
      | true =>
        go_wp2
        go_roundw
        case rel => exact ⟨j + 1, by omega, by go_num, by rw [HTK.out, hw]; simp, trivial⟩
        case measure => simp [intOf]; omega
      | false =>
        go_wp2
        go_roundw
        case rel => exact ⟨j + 1, by omega, by go_num, by rw [HTK.out, hw]; simp, trivial⟩
        case measure => simp [intOf]; omega
  . have hjl : j = ts.length := by omega
    subst hjl
    have n1 : ¬ (ts.length : Int) < (ts.length : Int) := by omega
    rw [List.take_length]
    obtain ⟨cN, hcN⟩ : ∃ cN, cN = zcb write ts := ⟨_, rfl⟩
    rw [<- hcN]
    have hc4 : (write = true /\ 0 < cN) \/ (write = false /\ cN = 4) := by
     rcases hcnt with ⟨rfl, h⟩ | ⟨rfl, h⟩
     . exact .inl ⟨rfl, hcN ▸ h⟩
     . exact .inr ⟨rfl, hcN.trans h⟩
    clear hcnt hcN
    rcases hc4 with ⟨rfl, hc4⟩ | ⟨rfl, rfl⟩
    . have n4 : (0 : Int) < (cN : Int) := by omega
      go_wp2
      all_goals (go_ret; exact ⟨rfl, HB2.out⟩)
    . have n5 : (((4 : Nat) : Int) == 4) = true := rfl
      go_wp2
      all_goals (go_ret; exact ⟨rfl, HB2.out⟩)
end
set_option maxHeartbeats 1000000 in
theorem zul (x : Nat) (s : DbS) (w : World) (h : DbAt w x s) (hp : s.poi = false) (hw : s.writer = .pointer none) :
   Calls Tryz.prog 22 #[.pointer (some ⟨x, 0, none⟩), .bool true] w fun e w' => ∃ t, e = .returned (.tuple #[.pointer (some ⟨t, 0, none⟩), .nilIface]) /\ TxAt w' t ⟨x, s.root, s.keys, true, false, 0⟩ /\ DbAt w' x { s with writer := .pointer (some ⟨t, 0, none⟩) } /\ w.heap.size <= t /\ Only (fun y => y = x) w w' := by
 obtain ⟨dk, root, keys, writer, rd, poi⟩ := s
 simp only at hp hw
 subst hp
 subst hw
 have HL := zaa (zce h rfl)
 have HXL := zaa h.lt
 clear h
 go_enter_defers Tryz.func22, Tryz.ntmps22
 go_wp2_with (go_at_call 51; refine HL.out.mono ?_; rintro e w1 ⟨rfl, hb1, ho1, hs1⟩
              have c2 : w1.cell? ⟨x, 3, none⟩ = some root := zab hb1 3 rfl
              have c3 : w1.cell? ⟨x, 4, none⟩ = some (.int .i64 keys) := zab hb1 4 rfl
              have c5 : w1.cell? ⟨x, 5, none⟩ = some (.pointer none) := zab hb1 5 rfl
              have c7 : w1.cell? ⟨x, 7, none⟩ = some (.bool false) := zab hb1 7 rfl
              have c5' := fun o => zaj o c5
              have f5 : w1.frozen? ⟨x, 5, none⟩ = false := hb1.frozen 5
              have f5' : ∀ cs T, (w1.alloc (.cells cs T)).frozen? ⟨x, 5, none⟩ = false := fun cs T => (hb1.alloc (.cells cs T)).frozen 5
              have hxne : ¬ x = w1.heap.size := by have := hb1.lt; omega
              have hxne' : ¬ w1.heap.size = x := fun e => hxne e.symm
              have HB1 := zaa hb1
              have HO1 := zaa ho1
              have HS1 := zaa hs1
              clear hb1 ho1 hs1)
 have hxl := HXL.out
 have hz1 := HS1.out
 have hN := Blk.new w1 94 #[.pointer (some ⟨x, 0, none⟩), root, .int .i64 keys, .bool true, .bool false, .int .i64 0]
 have hA := HB1.out.alloc (.cells #[.pointer (some ⟨x, 0, none⟩), root, .int .i64 keys, .bool true, .bool false, .int .i64 0] 94)
 have hb3 := hA.set_ 5 (.pointer (some ⟨w1.heap.size, 0, none⟩))
 have hT3 := hN.far (p := ⟨x, 5, none⟩) hxne' (.pointer (some ⟨w1.heap.size, 0, none⟩))
 have hsz : w1.heap.size = w.heap.size := hz1
 have ho3 : Only (fun y => y = x) w1 ((w1.alloc (.cells #[.pointer (some ⟨x, 0, none⟩), root, .int .i64 keys, .bool true, .bool false, .int .i64 0] 94)).setCell ⟨x, 5, none⟩ (.pointer (some ⟨w1.heap.size, 0, none⟩))) := Only.set2 ((Only.refl _ _).alloc _) 5 _
 refine leaves_cons (f := 52) (args := #[.pointer (some ⟨x, 0, none⟩)]) (by simp) (by simp [go_sem]) ?_
 refine (zbd .returning hb3 rfl).mono ?_
 rintro e u' w4 ⟨rfl, rfl, hb4, ho4, hs4⟩
 refine ⟨_, results_tmp2 rfl _ _ _, ?_⟩
 refine ⟨w1.heap.size, rfl, Blk.only hT3 ho4 (by omega), hb4, by omega, ?_⟩
 exact ((HO1.out.trans ho3).trans ho4)
section
variable {w w' : World} {B N : Nat} {d : DiI} {s : LdS} {m : Nums} {bytes : List UInt8} {kM kW : Nat} {σ σ' : StI}
theorem DiI.own_some (hst : d.st = some σ) : d.own = d.base ++ σ.own := by unfold DiI.own DiI.sown; rw [hst]
theorem DiOk.sok (H : DiOk w B N d s m bytes kM kW) (hst : d.st = some σ) : s.x = pkv σ.x /\ s.c = .slice none 0 0 /\ s.commits = 0 /\ s.ts = σ.tsv /\ StOk w B N d.db s.n σ := by
 have h := H.st
 unfold StIs at h
 rw [hst] at h
 exact h
theorem DiOk.store (H : DiOk w B N d s m bytes kM kW) (hn : d.own.Nodup) (hst : d.st = some σ) {fp : Nat -> Prop} (ho : Only fp w w') (hf : ∀ y, fp y -> y = d.p \/ y ∈ σ.own) (hl : LdAt w' d.p { s with ts := σ'.tsv }) (hx : σ'.x = σ.x) (hS : StOk w' B (N + 1) d.db s.n σ') : DiIs w' B (N + 1) { d with st := some σ' } := by
 have hown := DiI.own_some hst
 have hkf : KF fp w := H.kf fun y hy => by
  rw [hown, List.mem_append]
  rcases hf y hy with e | e
  . exact .inl (by rw [e]; simp [DiI.base])
  . exact .inr e
 rw [hown] at hn
 obtain ⟨n1, n2, n3⟩ := List.nodup_append.1 hn
 have hnf : ∀ y ∈ d.base, y ≠ d.p -> ¬ fp y := fun y hy hne e => by
  rcases hf y e with k | k
  . exact hne k
  . exact n3 y hy y k rfl
 unfold DiI.base at n1
 simp only [List.nodup_cons, List.mem_cons, List.mem_append, not_or] at n1
 obtain ⟨⟨a1, a2, a3, a4⟩, ⟨a5, a6, a7⟩, ⟨a8, a9⟩, _⟩ := n1
 have h := H.dk
 have hm : ∀ x cs, Blk w x 241 cs -> ¬ fp x := fun x cs hx => hkf x _ cs hx (by decide)
 obtain ⟨q1, q2, q3, q4, q5⟩ := H.sok hst
 refine ⟨{ s with ts := σ'.tsv }, m, bytes, kM, kW, ⟨hl, ⟨h.ok.may.only ho hm, h.ok.were.only ho hm, h.ok.emp, h.ok.wild, h.ok.bit, h.ok.kM, h.ok.kW⟩, (h.dk.only ho fun y hy => ?_).more (by omega), h.db, h.calm, h.hz.mono (by omega), by have := h.few; omega, h.st, h.lo, h.lt⟩, H.poi, H.lists, H.want, ⟨by rw [hx]; exact q1, q2, q3, rfl, hS⟩, (H.ls.only ho hkf (fun y hy => hnf y (by simp [DiI.base] at hy ⊢; simp [hy]) (fun e => a3 (by rw [<- e]; exact hy))) (fun y hy => hnf y (by simp [DiI.base] at hy ⊢; simp [hy]) (fun e => a4 (by rw [<- e]; exact hy)))).more⟩
 rcases hy with e | e | e
 . rw [e]; exact hnf _ (by simp [DiI.base]) (fun e => a1 e.symm)
 . rw [e]; exact hnf _ (by simp [DiI.base]) (fun e => a2 e.symm)
 . cases e
theorem Turned.store (hn : d.own.Nodup) (hlt : ∀ y ∈ d.own, y < w.heap.size) (hst : d.st = some σ) {fp : Nat -> Prop} (ho : Only fp w w') (hf : ∀ y, fp y -> y = d.p \/ y ∈ σ.own) (hs : ∀ y ∈ σ'.own, y ∈ σ.own \/ w.heap.size <= y) (hn' : σ'.own.Nodup) : Turned w w' d { d with st := some σ' } := by
 have hown := DiI.own_some hst
 have hown' : ({ d with st := some σ' } : DiI).own = d.base ++ σ'.own := DiI.own_some (d := { d with st := some σ' }) rfl
 refine ⟨rfl, fun y hy => ?_, ?_, ho.mono fun y _ hy => ?_⟩
 . rw [hown', List.mem_append] at hy
   rw [hown, List.mem_append]
   rcases hy with k | k
   . exact .inl (.inl k)
   . exact (hs y k).imp .inr id
 . rw [hown']
   have := zdw (A := d.base) (F := σ.own) (F' := σ'.own) (C := []) (z := w.heap.size) (by rw [List.append_nil, <- hown]; exact hn) (by rw [List.append_nil, <- hown]; exact hlt) hn' hs
   rwa [List.append_nil] at this
 . rw [hown, List.mem_append]
   rcases hf y hy with e | e
   . exact .inl (by rw [e]; simp [DiI.base])
   . exact .inr e
theorem Turned.refl (hn : d.own.Nodup) (hb : Below w.heap.size w w') : Turned w w' d d := ⟨rfl, fun _y hy => .inl hy, hn, Only.of_below hb⟩
theorem TurnPost.same (h : DiIs w B N d) (hn : d.own.Nodup) (hb : Below w.heap.size w w') {e : Ending} (he : e = .returned (.bool true)) : TurnPost B N d w e w' := ⟨he, d, (h.below hb).more, Turned.refl hn hb⟩
theorem TxOk.txb {x : Nat} {τ : TxI} (h : TxOk w x B N τ) : TxB w τ.t := ⟨_, h.tx⟩
end
theorem zhv (a b : List TxI) : wrL (a ++ b) = wrL a ++ wrL b := by simp [wrL]
theorem zhw (a b : List TxI) : rdL (a ++ b) = rdL a ++ rdL b := by simp [rdL]
theorem zum {ts : List TxI} (h : wrL ts = []) : wrV ts = .pointer none := by unfold wrV; rw [h]
theorem zs6 {ts : List TxI} {t : Nat} {l : List Nat} (h : wrL ts = t :: l) : wrV ts = pkv t := by unfold wrV; rw [h]
section
variable {w w' : World} {B N b n p : Nat} {s : LdS} {σ : StI}
theorem BegunTo.store {write : Bool} {S' : Nat -> DbS} {ks' : Nat -> List Nat} (h : BegunTo w w' B p s σ write S' ks') (hσ : StOk w B N b n σ) (hn : σ.own.Nodup) (hp : ¬ p ∈ σ.own) (hpo : OwnB w p) (hN : σ.ts.length <= N)
   (hS : ∀ t, S' t = ⟨σ.dk, .pointer none, 0, if write = true then pkv t else wrV σ.ts, σ.rd, false⟩) (hk : ∀ t, ks' t = if write = true then rdL σ.ts else rdL σ.ts ++ [t]) (h0 : write = true -> wrL σ.ts = []) (h4 : write = false -> (rdL σ.ts).length < 4) :
   ∃ σ', σ'.x = σ.x /\ LdAt w' p { s with ts := σ'.tsv } /\ StOk w' B (N + 1) b n σ' /\ (∀ y ∈ σ'.own, y ∈ σ.own \/ w.heap.size <= y) /\ σ'.own.Nodup := by
 obtain ⟨t, l, tsv', hT, hL, hD, hR, hrow, hblk, hl, htz, hlz, ho⟩ := h
 have hfo : ∀ y, (y = p \/ y = σ.x \/ y = σ.rd \/ some y = σ.tsv.ownBlock) -> y = p \/ y ∈ σ.own := fun y hy => by
  rcases hy with e | e | e | e
  . exact .inl e
  . exact .inr (by rw [e]; simp [StI.own])
  . exact .inr (by rw [e]; simp [StI.own])
  . exact .inr (by simp [StI.own, <- e])
 have hkf : KF (fun y => y = p \/ y = σ.x \/ y = σ.rd \/ some y = σ.tsv.ownBlock) w := KF.of fun y hy => by
  rcases hfo y hy with e | e
  . rw [e]; exact hpo
  . exact hσ.own y e
 have hn0 := hn
 unfold StI.own at hn
 simp only [List.nodup_cons, List.mem_cons, List.mem_append, not_or] at hn
 obtain ⟨⟨a1, a2, a3⟩, ⟨a4, a5⟩, a6⟩ := hn
 have hne : ∀ y ∈ σ.ts.flatMap TxI.own, ¬ (y = p \/ y = σ.x \/ y = σ.rd \/ some y = σ.tsv.ownBlock) := fun y hy e => by
  rcases e with e | e | e | e
  . exact hp (by rw [<- e]; simp only [StI.own, List.mem_cons, List.mem_append]; exact .inr (.inr (.inr hy)))
  . exact a3 (e ▸ hy)
  . exact a5 (e ▸ hy)
  . exact (List.nodup_append.1 a6).2.2 y (by rw [<- e]; simp) y hy rfl
 have hlt : l ≠ t := Blk.ne_ hL hT (by decide)
 have hgl : tsv'.ownBlock ≠ some l := zae hrow hL (by decide)
 have hgt : tsv'.ownBlock ≠ some t := zae hrow hT (by decide)
 obtain ⟨τ', hτ'⟩ : ∃ τ' : TxI, τ' = ⟨l, t, write, false, 0, 0, ⟨none, 0⟩, .pointer none, [], .slice none 0 0, .slice none 0 0, []⟩ := ⟨_, rfl⟩
 have hown' : τ'.own = [l, t] := by rw [hτ']; rfl
 have hso : (⟨σ.x, σ.dk, σ.rd, tsv', σ.ts ++ [τ']⟩ : StI).own = σ.x :: σ.rd :: (tsv'.ownBlock.toList ++ σ.ts.flatMap TxI.own ++ [l, t]) := by
  unfold StI.own
  rw [List.flatMap_append, List.flatMap_cons, List.flatMap_nil, List.append_nil, hown', List.append_assoc]
 have hwn : wrL [τ'] = if write = true then [t] else [] := by rw [hτ']; cases write <;> rfl
 have hrn : rdL [τ'] = if write = true then [] else [t] := by rw [hτ']; cases write <;> rfl
 refine ⟨⟨σ.x, σ.dk, σ.rd, tsv', σ.ts ++ [τ']⟩, rfl, hl, ⟨?_, ?_, ?_, ?_, ?_, ?_, ?_, ?_, hσ.fit⟩, ?_, ?_⟩
 . show DbAt w' σ.x ⟨σ.dk, .pointer none, 0, wrV (σ.ts ++ [τ']), σ.rd, false⟩
   have e : wrV (σ.ts ++ [τ']) = if write = true then pkv t else wrV σ.ts := by
    unfold wrV
    rw [zhv, hwn]
    cases write with
    | true => rw [h0 rfl]; rfl
    | false => simp
   rw [e, <- hS t]
   exact hD
 . show RdAt w' σ.rd (rdL (σ.ts ++ [τ']))
   rw [zhw, hrn]
   rw [hk t] at hR
   cases write with
   | true => simpa using hR
   | false => simpa using hR
 . obtain ⟨hd, hdk⟩ := hσ.dk
   exact ⟨hd, hdk.only ho (hkf _ _ _ hdk (by decide))⟩
 . show w'.ownsRow B 247 1 tsv' (σ.ts ++ [τ']).length ((σ.ts ++ [τ']).map fun τ => pkv τ.l)
   rw [List.length_append, List.map_append]
   have e : [τ'].map (fun τ => pkv τ.l) = [pkv l] := by rw [hτ']; rfl
   rw [e]
   exact hrow
 . intro τ hτ
   rcases List.mem_append.1 hτ with k | k
   . exact ((hσ.each τ k).only ho hkf fun y hy => hne y (List.mem_flatMap.2 ⟨τ, k, hy⟩)).more
   . rw [List.mem_singleton.1 k, hτ']
     exact ⟨hL, hT, .inl ⟨rfl, rfl, rfl⟩, List.nodup_nil, TR.empty, RRow.nil _, Nat.zero_le _, Nat.zero_le _, ⟨Int.le_refl _, by show (0 : Int) <= ((N + 1 : Nat) : Int); omega⟩, World.ownsRow_nil _ _ _ _, fun c hc => by (cases hc), Nat.zero_le _⟩
 . show (wrL (σ.ts ++ [τ'])).length <= 1
   rw [zhv, hwn]
   cases write with
   | true => rw [h0 rfl]; simp
   | false => simpa using hσ.one
 . show (rdL (σ.ts ++ [τ'])).length <= 4
   rw [zhw, hrn]
   cases write with
   | true => simpa using hσ.four
   | false => have := h4 rfl; simp; omega
 . show (σ.ts ++ [τ']).length <= N + 1
   rw [List.length_append]; simp only [List.length_cons, List.length_nil]; omega
 . intro y hy
   rw [hso] at hy
   simp only [List.mem_cons, List.mem_append, List.not_mem_nil, or_false] at hy
   simp only [StI.own, List.mem_cons, List.mem_append]
   rcases hy with k | k | (k | k) | k | k
   . exact .inl (.inl k)
   . exact .inl (.inr (.inl k))
   . rw [Option.mem_toList] at k
     rcases hblk y k with e | e
     . exact .inl (.inr (.inr (.inl (by rw [Option.mem_toList]; exact e))))
     . exact .inr e
   . exact .inl (.inr (.inr (.inr k)))
   . exact .inr (by omega)
   . exact .inr (by omega)
 . rw [hso]
   have hlow : ∀ y ∈ σ.own, y < w.heap.size := fun y hy => (hσ.own y hy).lt
   have h1 : ([σ.x, σ.rd] ++ tsv'.ownBlock.toList ++ σ.ts.flatMap TxI.own).Nodup := by
    refine zdw (F := σ.tsv.ownBlock.toList) (z := w.heap.size) ?_ ?_ ?_ ?_
    . rw [List.append_assoc]; exact hn0
    . intro y hy; rw [List.append_assoc] at hy; exact hlow y hy
    . cases tsv'.ownBlock <;> simp
    . intro y hy
      rw [Option.mem_toList] at hy
      rcases hblk y hy with e | e
      . exact .inl (by rw [Option.mem_toList]; exact e)
      . exact .inr e
   have e : σ.x :: σ.rd :: (tsv'.ownBlock.toList ++ σ.ts.flatMap TxI.own ++ [l, t]) = ([σ.x, σ.rd] ++ tsv'.ownBlock.toList ++ σ.ts.flatMap TxI.own) ++ [l, t] := by simp
   rw [e]
   refine List.nodup_append.2 ⟨h1, by simp [hlt], fun y hy z hz k => ?_⟩
   subst k
   simp only [List.mem_cons, List.mem_append, List.not_mem_nil, or_false] at hy hz
   have hyl : w.heap.size <= y := by rcases hz with k | k <;> omega
   rcases hy with ((k | k) | k) | k
   . have := hlow y (by rw [k]; simp [StI.own]); omega
   . have := hlow y (by rw [k]; simp [StI.own]); omega
   . rw [Option.mem_toList] at k
     rcases hz with z | z
     . exact hgl (z ▸ k)
     . exact hgt (z ▸ k)
   . have := hlow y (by simp only [StI.own, List.mem_cons, List.mem_append]; exact .inr (.inr (.inr k))); omega
end
theorem zs7 {w : World} {B N : Nat} {d : DiI} {σ : StI} (write : Bool) (h : DiIs w B N d) (hn : d.own.Nodup) (hst : d.st = some σ) (hg : Glob w) (hN : N <= 16384) (hwB : B <= w.heap.size) :
   Calls Tryz.prog 150 #[pkv d.p, .bool write] w (TurnPost B N d w) := by
 obtain ⟨s, m, bytes, kM, kW, H⟩ := h
 obtain ⟨q1, q2, q3, q4, hσ⟩ := H.sok hst
 have hown := DiI.own_some hst
 have hlt : ∀ y ∈ d.own, y < w.heap.size := fun y hy => (H.own y hy).lt
 have hn0 := hn
 rw [hown] at hn
 obtain ⟨n1, n2, n3⟩ := List.nodup_append.1 hn
 have hp : ¬ d.p ∈ σ.own := fun e => n3 d.p (by simp [DiI.base]) d.p e rfl
 have hpo : OwnB w d.p := H.own d.p (by simp [DiI.own, DiI.base])
 have hxr : σ.rd ≠ σ.x := hσ.rd.ne_blk hσ.db
 have hdev : DkAt w s.db (.slice (some ⟨d.g, 0, none⟩) s.n (zcg bytes)) (.slice none 0 0) m := by rw [H.dk.db]; exact H.dk.dk.at_
 have hone := hσ.one
 have hfour := hσ.four
 have fin : ∀ (S' : Nat -> DbS) (ks' : Nat -> List Nat), (∀ t, S' t = ⟨σ.dk, .pointer none, 0, if write = true then pkv t else wrV σ.ts, σ.rd, false⟩) -> (∀ t, ks' t = if write = true then rdL σ.ts else rdL σ.ts ++ [t]) -> (write = true -> wrL σ.ts = []) -> (write = false -> (rdL σ.ts).length < 4) ->
    ∀ e w', (e = .returned (.bool true) /\ BegunTo w w' B d.p s σ write S' ks') -> TurnPost B N d w e w' := by
  intro S' ks' hS hk h0 h4 e w' he
  obtain ⟨rfl, hb⟩ := he
  obtain ⟨σ', e1, e2, e3, e4, e5⟩ := hb.store hσ n2 hp hpo hσ.len hS hk h0 h4
  obtain ⟨t, l, tsv', hT, hL, hD, hR, hrow, hblk, hl, htz, hlz, ho⟩ := hb
  have hfo : ∀ y, (y = d.p \/ y = σ.x \/ y = σ.rd \/ some y = σ.tsv.ownBlock) -> y = d.p \/ y ∈ σ.own := fun y hy => by
   rcases hy with e | e | e | e
   . exact .inl e
   . exact .inr (by rw [e]; simp [StI.own])
   . exact .inr (by rw [e]; simp [StI.own])
   . exact .inr (by simp [StI.own, <- e])
  exact ⟨rfl, { d with st := some σ' }, H.store hn0 hst ho hfo e2 e1 e3, Turned.store hn0 hlt hst ho hfo e4 e5⟩
 cases write with
 | true =>
   cases hw : wrL σ.ts with
   | nil =>
     have hdb : DbAt w σ.x ⟨σ.dk, .pointer none, 0, .pointer none, σ.rd, false⟩ := by have := hσ.db; rw [zum hw] at this; exact this
     refine (zmr (s := s) true (fun t => ⟨σ.dk, .pointer none, 0, pkv t, σ.rd, false⟩) (fun _ => rdL σ.ts) H.dk.at_ H.poi hdev q1 q2 q3 q4 hσ n2 hwB hN (.inl ⟨rfl, by rw [zmo, hw]; rfl⟩) ?_).mono (fin _ _ (fun _ => rfl) (fun _ => rfl) (fun _ => hw) (fun h => by cases h))
     refine (zul σ.x _ w hdb rfl rfl).mono ?_
     rintro e w1 ⟨t, rfl, hT, hD, htz, ho⟩
     exact ⟨t, rfl, hT, hD, hσ.rd.only ho hxr, htz, ho.mono fun y _ hy => .inl hy⟩
   | cons t l =>
     have hdb : DbAt w σ.x ⟨σ.dk, .pointer none, 0, .pointer (some ⟨t, 0, none⟩), σ.rd, false⟩ := by have := hσ.db; rw [zs6 hw] at this; exact this
     refine (zms (s := s) true H.dk.at_ H.poi hdev q1 q2 q3 q4 hσ n2 hwB hN (.inl ⟨rfl, by rw [zmo, hw]; simp⟩) hg ?_).mono (fun e w' he => TurnPost.same ⟨s, m, bytes, kM, kW, H⟩ hn0 he.2 he.1)
     refine (zpn σ.x ⟨t, 0, none⟩ _ w hdb rfl rfl).mono ?_
     rintro e w1 ⟨f, rfl, hf, hb⟩
     exact ⟨f, rfl, hf, hb⟩
 | false =>
   by_cases h4 : (rdL σ.ts).length < 4
   . refine (zmr (s := s) false (fun t => ⟨σ.dk, .pointer none, 0, wrV σ.ts, σ.rd, false⟩) (fun t => rdL σ.ts ++ [t]) H.dk.at_ H.poi hdev q1 q2 q3 q4 hσ n2 hwB hN (.inr ⟨rfl, by rw [zmp]; exact h4⟩) ?_).mono (fin _ _ (fun _ => rfl) (fun _ => rfl) (fun h => by cases h) (fun _ => h4))
     have hk : ∀ k ∈ rdL σ.ts, TxB w k := fun k hk => by
      unfold rdL at hk
      obtain ⟨τ, hτ, rfl⟩ := List.mem_map.1 hk
      exact (hσ.each τ (List.mem_filter.1 hτ).1).txb
     refine (zkb σ.x _ (rdL σ.ts) w hσ.db rfl hσ.rd hk h4).mono ?_
     rintro e w1 ⟨t, rfl, hT, hD, hR, htz, ho⟩
     exact ⟨t, rfl, hT, hD, hR, htz, ho⟩
   . have h4' : (rdL σ.ts).length = 4 := by omega
     refine (zms (s := s) false H.dk.at_ H.poi hdev q1 q2 q3 q4 hσ n2 hwB hN (.inr ⟨rfl, by rw [zmp]; exact h4'⟩) hg ?_).mono (fun e w' he => TurnPost.same ⟨s, m, bytes, kM, kW, H⟩ hn0 he.2 he.1)
     refine (znv σ.x _ (rdL σ.ts) w hσ.db rfl hσ.rd h4').mono ?_
     rintro e w1 ⟨f, rfl, hf, hb⟩
     exact ⟨f, rfl, hf, hb⟩
end Go.Proofs.YtemondlgcmpbbaaGreatDoor
