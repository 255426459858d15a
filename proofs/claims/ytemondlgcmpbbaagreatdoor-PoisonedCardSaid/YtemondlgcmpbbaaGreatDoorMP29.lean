/- Lr Ro Td Tp Tc Gt Bw: merged. -/
import Derived.Test.YtemondlgcmpbbaaGreatDoorMP28
import Derived.Test.YtemondlgcmpbbaaGreatDoorMP20
import Derived.Test.YtemondlgcmpbbaaGreatDoorMP21
import Derived.Deep.QuietTactic
import Derived.Laws.IdiomRangeMap
namespace Go.Proofs.YtemondlgcmpbbaaGreatDoor
open Go.RowKit
set_option maxRecDepth 100000
theorem zs6 {K : Type} {R : K -> Nat -> List Nat -> Prop} : ∀ {es : List (Str × K)} {bs : List Nat}, bs.length = es.length -> (∀ j (hj : j < es.length) (hj2 : j < bs.length), R es[j].2 bs[j] []) -> RepL R es bs (List.replicate es.length [])
 | [], [], _, _ => trivial
 | [], _ :: _, h, _ => by simp at h
 | _ :: _, [], h, _ => by simp at h
 | e :: es, b :: bs, h, hR => ⟨hR 0 (by simp) (by simp), zs6 (by simpa using h) fun j hj hj2 => hR (j + 1) (by simpa using hj) (by simpa using hj2)⟩
theorem zx2 (n : Nat) : (List.replicate n ([] : List Nat)).flatten = [] := by
 induction n with
 | zero => rfl
 | succ n ih => rw [List.replicate_succ, List.flatten_cons, ih]; rfl
theorem zmk {K : Type} {W : Str -> Option Str -> K -> Prop} : ∀ {X : List (Str × K)} {lo : Str} {hi : Option Str}, Chain W lo hi X -> ∀ i (h : i < X.length), X[i].1.size <= 8
 | [], _, _, _, i, h => by simp at h
 | a :: X, _, _, hc, 0, _ => hc.2.1
 | a :: X, _, _, hc, i + 1, h => by
   rcases hc.2.2 with ⟨rfl, _⟩ | ⟨k, _, _, _, k4⟩
   . simp at h
   . exact zmk k4 i (by simpa using h)
theorem zml {α β : Type} {f : α -> List β} : ∀ {l : List α}, (l.flatMap f).Nodup -> ∀ i (h : i < l.length), (f l[i]).Nodup
 | [], _, i, h => by simp at h
 | a :: l, hn, 0, _ => by rw [List.flatMap_cons] at hn; exact (List.nodup_append.1 hn).1
 | a :: l, hn, i + 1, h => by rw [List.flatMap_cons] at hn; exact zml (List.nodup_append.1 hn).2.1 i (by simpa using h)
theorem zqn {b g base n : Nat} {cv : Value} {bytes : List UInt8} {cache : List (Nat × List UInt8)} {L U G : Nat} (hG : G < 4294967296) (hlen : ∀ i, i < n -> (dread bytes cache i).length = 128) (hn : n <= 400) : ∀ (h : Nat) (t : Tr h) (lo : Str) (hi : Option Str), WF h lo hi t -> NS (LQ (dread bytes cache) n G) h t -> (blks h t).Nodup -> (∀ k, hi = some k -> k ≠ ByteArray.empty) -> zqk b g base n cv bytes cache L U G lo hi h t
 | 0, t, lo, hi, hw, hq, _, hhi => by
   intro K m keys Lu d w hpre hnum hkeys hd0 hd hdis
   obtain ⟨deep, rfl⟩ := Int.eq_ofNat_of_zero_le hd0
   obtain ⟨⟨q1, q2⟩, q3, q4, q5, q6, q7⟩ := hq
   change 2 <= Nd.blk t at q1
   change Nd.blk t < n at q2
   change Nd.gen t <= G at q3
   change lsum (Nd.es t) <= 116 at q4
   change 1 <= (Nd.es t).length at q5
   change dread bytes cache (Nd.blk t) = nby 0 t \/ sealedN (dread bytes cache (Nd.blk t)) = false at q7
   have hb : Nd.blk t ∉ Lu := hdis _ (by simp [blks])
   cases hs : sealedN (dread bytes cache (Nd.blk t)) with
   | false =>
     refine (zqg K b g base n cv m bytes cache L U G (Nd.blk t) (Nd.gen t) deep keys Lu lo hi w hpre q1 q2 q3 hb (by omega) rfl ⟨hlen _ q2, hs⟩).mono ?_
     rintro e w' ⟨rfl, h1, h2⟩
     have hgd : good (dread bytes cache) 0 t = false := hs
     exact ⟨1, _, Nat.le_refl _, by rw [hgd], h1, h2, fun ht => (by rw [hgd] at ht; cases ht), fun _ => rfl⟩
   | true =>
     have hr : dread bytes cache (Nd.blk t) = nby 0 t := by
      rcases q7 with h | h
      . exact h
      . rw [hs] at h; cases h
     refine (zwd K b g base n cv m bytes cache L U G (Nd.blk t) (Nd.gen t) deep keys Lu lo hi (Nd.es t) w hpre q1 q2 q3 hb (by omega) hhi (by rw [hr, zxy]) hw q4 q5).mono ?_
     rintro e w' ⟨b', pv, rfl, h1, h2, h3, h4, h5, h6, h7⟩
     have hgd : good (dread bytes cache) 0 t = true := hs
     refine ⟨1, _, Nat.le_refl _, by rw [hgd], h6, h7, fun _ => ⟨b', _, rfl, ?_, h4, h5, fun x => ?_⟩, fun ht => by rw [hgd] at ht; cases ht⟩
     . obtain ⟨A, c, rfl, hlc, hcm, _⟩ := zan h3
       have hd : Nd.dirty t = false := q6
       refine ⟨A, c, none, 0, ⟨?_, SlC.of_own h3, SlC.of_own (zdo w' w'.heap.size 139)⟩, h1, zi5 h3 (fun x hx _ => hx), by rw [hd]; rfl⟩
       rw [hd]; exact h2
     . rw [zm6]; simp [blks]
 | h + 1, t, lo, hi, hw, hq, hnd, hhi => by
   intro K m keys Lu d w hpre hnum hkeys hd0 hd hdis
   obtain ⟨deep, rfl⟩ := Int.eq_ofNat_of_zero_le hd0
   obtain ⟨⟨⟨q1, q2⟩, q3, q4, q5, q6, q7⟩, hkids⟩ := hq
   change 2 <= Nd.blk t at q1
   change Nd.blk t < n at q2
   change Nd.gen t <= G at q3
   change ksum (Nd.es t) <= 116 at q4
   change 1 <= (Nd.es t).length at q5
   change dread bytes cache (Nd.blk t) = nby (h + 1) t \/ sealedN (dread bytes cache (Nd.blk t)) = false at q7
   have hbl : blks (h + 1) t = ((Nd.es t).flatMap fun e => blks h e.2) ++ [Nd.blk t] := rfl
   have hb : Nd.blk t ∉ Lu := hdis _ (by rw [hbl]; simp)
   have hns : nodes (h + 1) t = 1 + ((Nd.es t).map fun e => nodes h e.2).sum := rfl
   have hgd0 : good (dread bytes cache) (h + 1) t = (sealedN (dread bytes cache (Nd.blk t)) && (Nd.es t).all fun e => good (dread bytes cache) h e.2) := rfl
   cases hs : sealedN (dread bytes cache (Nd.blk t)) with
   | false =>
     refine (zqg K b g base n cv m bytes cache L U G (Nd.blk t) (Nd.gen t) deep keys Lu lo hi w hpre q1 q2 q3 hb (by omega) rfl ⟨hlen _ q2, hs⟩).mono ?_
     rintro e w' ⟨rfl, h1, h2⟩
     have hgd : good (dread bytes cache) (h + 1) t = false := by rw [hgd0, hs]; rfl
     exact ⟨1, _, by rw [hns]; omega, by rw [hgd], h1, h2, fun ht => (by rw [hgd] at ht; cases ht), fun _ => rfl⟩
   | true =>
     have hr : dread bytes cache (Nd.blk t) = nby (h + 1) t := by
      rcases q7 with h | h
      . exact h
      . rw [hs] at h; cases h
     rw [hbl] at hnd
     obtain ⟨n1, _, n3⟩ := List.nodup_append.1 hnd
     have hch : Chain (WF h) lo hi (Nd.es t) := hw
     have hpe : (Tr.pairs (h + 1) t) = kpairs h (Nd.es t) := rfl
     rw [hpe] at hkeys
     have hok : ∀ e ∈ Nd.es t, e.1.size <= 8 /\ Tr.blk h e.2 < 65536 /\ Tr.gen h e.2 < 4294967296 := by
      intro e he
      have hq := (hkids e he).here
      refine ⟨?_, by have := hq.1.2; omega, by have := hq.2.1; omega⟩
      obtain ⟨i, hi', rfl⟩ := List.mem_iff_getElem.1 he
      exact zmk hch i hi'
     have IH : ∀ i (hi' : i < (Nd.es t).length), zqk b g base n cv bytes cache L U G (Nd.es t)[i].1 (zdf hi (Nd.es t) i) h (Nd.es t)[i].2 := by
      intro i hi'
      have hmem := List.getElem_mem hi'
      refine zqn hG hlen hn h _ _ _ (zf5 hch i hi').1 (hkids _ hmem) (zml n1 i hi') (fun k hk => ?_)
      unfold zdf at hk
      split at hk
      . rename_i hj
        injection hk with hk
        have h5 := ((zf5 hch (i + 1) hj).2.2.1 (by omega)).1
        rintro rfl
        rw [hk, zav] at h5
        cases h5
      . exact hhi k hk
     refine (zr0 K b g base n cv m bytes cache L U G (Nd.blk t) (Nd.gen t) deep keys Lu lo hi (Nd.es t) w hpre q1 q2 q3 hb (by omega) hhi (by rw [hr, zul]) hch q4 q5 hok (by rw [hns] at hnum; omega) hkeys (fun x hx => ⟨hdis x (by rw [hbl]; exact List.mem_append_left _ hx), fun e => n3 x hx (Nd.blk t) (by simp) e⟩) n1 IH).mono ?_
     rintro e w' ⟨k, v, h1, rfl, h3, h4, h5⟩
     have hgd : good (dread bytes cache) (h + 1) t = (Nd.es t).all fun e => good (dread bytes cache) h e.2 := by rw [hgd0, hs]; rfl
     refine ⟨k, v, by rw [hns]; exact h1, by rw [hgd], h3, h4, fun ht => ?_, fun ht => h5.2 (hgd.symm.trans ht)⟩
     rw [hgd] at ht
     obtain ⟨b', gk, c, HP, bs, Lu', rfl, p1, p2, p3, p4, s⟩ := h5.1 ht
     have hlr := s.lr
     rw [List.take_length] at hlr
     refine ⟨b', Lu', rfl, ?_, hlr, s.used, fun x => ?_⟩
     . have hd : Nd.dirty t = false := q6
       refine ⟨none, 0, some ⟨gk, 0, none⟩, c, bs, List.replicate (Nd.es t).length [], ⟨?_, SlC.of_own (zdo w' w'.heap.size 68), SlC.of_own s.own⟩, p1, fun _ a ha => by injection ha with ha; rw [<- ha]; exact p2, zs6 s.bl (fun j hj hj2 => ?_), by rw [zx2, hd]; rfl⟩
       . rw [hd]; exact s.node
       . have := s.kids j hj hj2
         rw [if_pos hj] at this
         exact this.more (fun z hz => Nat.le_trans p3 hz)
     . rw [s.mem, List.take_length, hbl, List.mem_append, List.mem_singleton]
       constructor
       . rintro (h | h | h)
         . exact .inl h
         . exact .inr (.inr h)
         . exact .inr (.inl h)
       . rintro (h | h | h)
         . exact .inl h
         . exact .inr (.inr h)
         . exact .inr (.inl h)
def zgi (n : Nat) : Int := (((n : Int) - 12)).tdiv 3
theorem zx3 (dk b n c : Nat) (hd : Hd) (A : Option Addr) (cv : Value) (m : Nums) (w : World) (hk : Blk w dk 151 (#[dev b] ++ hd.cells)) (h : DkAt w b (.slice A n c) cv m) (hn : n <= 1000) :
   Calls Tryz.prog 57 #[.pointer (some ⟨dk, 0, none⟩)] w fun e w' => e = .returned (.int .i64 (zgi n)) /\ w = w' := by
 have HB := zaa (zd8 b n c A cv m w h)
 have mB := zfi
 have c0 : w.cell? ⟨dk, 0, none⟩ = some (.iface 23 (.pointer (some ⟨b, 0, none⟩))) := zab hk 0 (by rw [Array.getElem?_append_left (by simp)]; rfl)
 have k1 : IntKind.i64.wrap ((n : Int) - 12) = (n : Int) - 12 := by rw [IntKind.wrap_i64]; omega
 have k2 : IntKind.i64.wrap (((n : Int) - 12).tdiv 3) = ((n : Int) - 12).tdiv 3 := by
  have h1 : -12 <= ((n : Int) - 12).tdiv 3 /\ ((n : Int) - 12).tdiv 3 <= 1000 := by
   by_cases h0 : (0 : Int) <= (n : Int) - 12
   . rw [Int.tdiv_eq_ediv_of_nonneg h0]; omega
   . have e : (n : Int) - 12 = -(12 - (n : Int)) := by omega
     rw [e, Int.neg_tdiv, Int.tdiv_eq_ediv_of_nonneg (by omega)]; omega
  rw [IntKind.wrap_i64]; omega
 clear h hk
 go_enter Tryz.func57, Tryz.ntmps57
 go_wp2_with (go_at_call 237; refine HB.out.mono ?_; rintro e w' ⟨rfl, rfl⟩)
 go_ret
 exact ⟨rfl, rfl⟩
def opDelete : ByteArray := ⟨#[100, 101, 108, 101, 116, 101]⟩
def opPut : ByteArray := ⟨#[112, 117, 116]⟩
def znz (ok : Nat -> Prop) (w w' : World) (t x : Nat) (T' : Tree) (ds : List Nat) (write done : Bool) (stamp : Int) : Prop :=
 ∃ rp' ds', TxAt w' t ⟨x, rp', T'.keys, write, done, stamp + 1⟩ /\ TreeV (up ok w.heap.size) w' T' rp' ds' /\ ds'.Nodup /\ ∀ y ∈ ds', y ∈ ds \/ w.heap.size <= y
theorem zyn {ok : Nat -> Prop} {B B' : Nat} (h : B <= B') : ∀ z, up ok B' z -> up ok B z := fun _ hz => hz.imp id fun h' => Nat.le_trans h h'
set_option maxHeartbeats 1600000 in
theorem zr1 {ok : Nat -> Prop} (t x : Nat) (rp : Value) (T : Tree) (ds : List Nat) (write done : Bool) (stamp : Int) (s : DbS) (k : Str) (w : World) (hT : TxAt w t ⟨x, rp, T.keys, write, done, stamp⟩) (hD : DbAt w x s)
   (hV : TreeV ok w T rp ds) (hnd : ds.Nodup) (hR : TR T) (hp : T.pairs.length <= 150) (hk : k.size <= 9223372036854775807) (hs0 : 0 <= stamp) (hs1 : stamp <= 1000000000) :
   Calls Tryz.prog 23 #[.pointer (some ⟨t, 0, none⟩), .string k] w fun e w' => ∃ v, e = .returned v /\ AnsV w' w.heap.size v opDelete (zf9 s.poi done true write k) /\ DbAt w' x s /\
    (zf9 s.poi done true write k ≠ 0 -> TxAt w' t ⟨x, rp, T.keys, write, done, stamp⟩ /\ Only (· = x) w w') /\ (zf9 s.poi done true write k = 0 -> znz ok w w' t x (T.delete k) ds write done stamp) /\ Only (fun y => y = t \/ y = x) w w' := by
 have t0 : w.cell? ⟨t, 0, none⟩ = some (.pointer (some ⟨x, 0, none⟩)) := zab hT 0 rfl
 have htx : t ≠ x := Blk.ne_ hT hD (by decide)
 obtain ⟨q, rfl⟩ := hV.ptr
 have HL := zaa (zef hD rfl)
 have HT := zaa hT
 have HV := zaa (fun W (ho : Only (· = x) w W) => hV.at1 hD (zbl (by decide) (by decide) (by decide)) ho)
 have HXL := zaa hD.lt
 have HRT := zaa hR
 have HP := zaa hp
 have HND := zaa hnd
 clear hT hD hV hR hp hnd
 have e1 : IntKind.i64.wrap (stamp + 1) = stamp + 1 := by rw [IntKind.wrap_i64]; omega
 obtain ⟨c, hc⟩ : ∃ c, c = zf9 s.poi done true write k := ⟨_, rfl⟩
 rw [<- hc]
 have HC := zaa hc
 clear hc
 by_cases h0 : c = 0
 . subst h0
   go_enter_defers Tryz.func23, Tryz.ntmps23
   go_wp2_with (first
    | (go_at_call 51; go_loud (
       refine HL.out.mono ?_; rintro e w1 ⟨rfl, hb1, ho1, hs1⟩
       have hT1 := HT.out.only ho1 htx
       have k0 : w1.cell? ⟨t, 0, none⟩ = some (.pointer (some ⟨x, 0, none⟩)) := zab hT1 0 rfl
       have HM := zaa (zib t x _ s 1 opDelete k true w1.heap.size (w1.alloc (.cells #[.string k] 9)) (hT1.alloc _) (hb1.alloc _) rfl (zab (Blk.new w1 9 #[.string k]) 0 rfl) hk)
       rw [<- HC.out] at HM
       have k1 := fun o => zai o (zab hT1 1 rfl)
       have k2 := fun o => zai o (zab hT1 2 rfl)
       have HG := zaa (zrw T (.pointer q) ds k (w1.alloc (.cells #[.string k] 9)) ((HV.out w1 ho1).below ((Below.refl _ _).alloc (Nat.le_refl _) _) (fun _ h => h)) HND.out HRT.out HP.out)
       unfold za7 at HG
       have HT1 := zaa hT1
       have HB1 := zaa hb1
       have HO1 := zaa ho1
       have HS1 := zaa hs1
       clear hT1 hb1 ho1 hs1))
    | (go_at_call 54; go_loud (
       unfold opDelete at HM
       refine HM.out.mono ?_; rintro e w' ⟨v, rfl, ha⟩
       obtain ⟨rfl, rfl⟩ : v = .nilIface /\ w1.alloc (.cells #[.string k] 9) = w' := by
        rcases ha.2 with h | h
        . exact ⟨h.2.1, h.2.2⟩
        . exact absurd rfl h.1
       clear ha))
    | (go_at_call 55; go_loud (
       refine HG.out.mono ?_; rintro e w2 ⟨rp', ds', rfl, hv2, hnd2, hsub2, hb2⟩
       obtain ⟨q', rfl⟩ := hv2.ptr
       unfold za7
       have hT2 := (HT1.out.alloc (.cells #[.string k] 9)).below hb2 (HT1.out.alloc _).lt
       have m1 : w2.cell? ⟨t, 1, none⟩ = some (.pointer q) := zab hT2 1 rfl
       have m2 : w2.cell? ⟨t, 2, none⟩ = some (.int .i64 T.keys) := zab hT2 2 rfl
       have m5 : w2.cell? ⟨t, 5, none⟩ = some (.int .i64 stamp) := zab hT2 5 rfl
       have z1 : w2.frozen? ⟨t, 1, none⟩ = false := hT2.frozen 1
       have z2 : w2.frozen? ⟨t, 2, none⟩ = false := hT2.frozen 2
       have z5 : w2.frozen? ⟨t, 5, none⟩ = false := hT2.frozen 5
       have HT2 := zaa hT2
       have HV2 := zaa hv2
       have HB2 := zaa hb2
       clear hT2 hv2 hb2)))
   obtain ⟨W3, hW3⟩ : ∃ W3, W3 = ((w2.setCell ⟨t, 1, none⟩ (.pointer q')).setCell ⟨t, 2, none⟩ (.int .i64 (T.delete k).keys)).setCell ⟨t, 5, none⟩ (.int .i64 (stamp + 1)) := ⟨_, rfl⟩
   rw [<- hW3]
   have hO3 : Only (· = t) w2 W3 := by rw [hW3]; exact ((Only.set1 _ _ _ _).set2 _ _).set2 _ _
   have hT3 : TxAt W3 t ⟨x, .pointer q', (T.delete k).keys, write, done, stamp + 1⟩ := by rw [hW3]; exact ((Blk.set_ HT2.out 1 _).set_ 2 _).set_ 5 _
   have hD2 : Blk w2 x 91 (zb8 s 1) := (HB1.out.alloc _).below HB2.out (HB1.out.alloc _).lt
   have hD3 : Blk W3 x 91 (zb8 s 1) := hD2.only hO3 (fun e => htx e.symm)
   have hV3 : TreeV (up ok (w1.alloc (.cells #[.string k] 9)).heap.size) W3 (T.delete k) (.pointer q') ds' := HV2.out.at1 HT2.out (zbl (by decide) (by decide) (by decide)) hO3
   refine leaves_cons (f := 52) (args := #[.pointer (some ⟨x, 0, none⟩)]) (by simp) (by simp [go_sem]) ?_
   refine (zcf .returning hD3 rfl).mono ?_
   rintro e u' w4 ⟨rfl, rfl, hb4, ho4, hs4⟩
   have hz1 : (w1.alloc (.cells #[.string k] 9)).heap.size = w1.heap.size + 1 := World.size_alloc _ _
   have hs1 := HS1.out
   refine ⟨.nilIface, by simp [results, Tryz.results23, go_sem], .nilIface, rfl, .inl ⟨rfl, rfl⟩, hb4, fun h => absurd rfl h, fun _ => ⟨.pointer q', ds', Blk.only hT3 ho4 htx, ?_, hnd2, ?_⟩, ?_⟩
   . exact (hV3.at1 hD3 (zbl (by decide) (by decide) (by decide)) ho4).move (fun _ _ => rfl) (zyn (by omega))
   . intro y hy
     rcases hsub2 y hy with h | h
     . exact .inl h
     . exact .inr (by omega)
   . exact ((((HO1.out.mono fun _ _ h => .inr h).alloc _).below HB2.out).trans (hO3.mono fun _ _ h => .inl h)).trans (ho4.mono fun _ _ h => .inr h)
 . go_enter_defers Tryz.func23, Tryz.ntmps23
   go_wp2_with (first
    | (go_at_call 51; go_loud (
       refine HL.out.mono ?_; rintro e w1 ⟨rfl, hb1, ho1, hs1⟩
       have hT1 := HT.out.only ho1 htx
       have k0 : w1.cell? ⟨t, 0, none⟩ = some (.pointer (some ⟨x, 0, none⟩)) := zab hT1 0 rfl
       have HM := zaa (zib t x _ s 1 opDelete k true w1.heap.size (w1.alloc (.cells #[.string k] 9)) (hT1.alloc _) (hb1.alloc _) rfl (zab (Blk.new w1 9 #[.string k]) 0 rfl) hk)
       rw [<- HC.out] at HM
       have HT1 := zaa hT1
       have HB1 := zaa hb1
       have HO1 := zaa ho1
       have HS1 := zaa hs1
       clear hT1 hb1 ho1 hs1))
    | (go_at_call 54; go_loud (
       unfold opDelete at HM
       refine HM.out.mono ?_; rintro e w2 ⟨v, rfl, ha⟩
       have hbl := ha.1
       rcases ha.2 with h | ⟨-, f, rfl, hf, hff⟩
       . exact absurd h.1 h0
       unfold zau)))
   have hD2 : Blk w2 x 91 (zb8 s 1) := (HB1.out.alloc _).below hbl (HB1.out.alloc _).lt
   refine leaves_cons (f := 52) (args := #[.pointer (some ⟨x, 0, none⟩)]) (by simp) (by simp [go_sem]) ?_
   refine (zcf .returning hD2 rfl).mono ?_
   rintro e u' w4 ⟨rfl, rfl, hb4, ho4, hs4⟩
   have hOx : Only (· = x) w w4 := ((HO1.out.alloc _).below hbl).trans ho4
   refine ⟨zau f, by unfold zau; simp [results, Tryz.results23, go_sem], zau f, rfl, .inr ⟨h0, f, rfl, ?_, ?_⟩, hb4, fun _ => ⟨Blk.only ((HT1.out.alloc _).below hbl (HT1.out.alloc _).lt) ho4 htx, hOx⟩, fun h => absurd h h0, hOx.mono fun _ _ h => .inr h⟩
   . have hx1 : x < w1.heap.size := HB1.out.lt
     refine Blk.only hf ho4 (fun e => ?_)
     simp at hff
     omega
   . have := HS1.out; simp at hff; omega
set_option maxHeartbeats 3200000 in
theorem zz2 {ok : Nat -> Prop} (t x : Nat) (rp : Value) (T : Tree) (ds : List Nat) (write done : Bool) (stamp : Int) (s : DbS) (k v : Str) (w : World) (hT : TxAt w t ⟨x, rp, T.keys, write, done, stamp⟩) (hD : DbAt w x s)
   (hV : TreeV ok w T rp ds) (hnd : ds.Nodup) (hR : TR T) (hp : T.pairs.length <= 150) (h1 : zb1 k) (h2 : okVal v) (hs0 : 0 <= stamp) (hs1 : stamp <= 1000000000) (hm : zf9 s.poi done true write k = 0)
   (b n c : Nat) (hd : Hd) (A : Option Addr) (cv : Value) (m : Nums) (hdk : Blk w s.dk 151 (#[dev b] ++ hd.cells)) (hdev : DkAt w b (.slice A n c) cv m) (hn : n <= 1000) (hroom : (T.get k).isSome = true \/ (T.keys : Int) < zgi n) :
   Calls Tryz.prog 24 #[.pointer (some ⟨t, 0, none⟩), .string k, .string v] w fun e w' => e = .returned .nilIface /\ DbAt w' x s /\ znz ok w w' t x (T.put k v) ds write done stamp /\ Only (fun y => y = t \/ y = x) w w' := by
 have t0 : w.cell? ⟨t, 0, none⟩ = some (.pointer (some ⟨x, 0, none⟩)) := zab hT 0 rfl
 have htx : t ≠ x := Blk.ne_ hT hD (by decide)
 have hkb := h1
 unfold zb1 at hkb
 have hk : k.size <= 9223372036854775807 := by omega
 have hvb : v.size <= 12 := h2
 have hvi : ¬ (12 : Int) < (v.size : Int) := by omega
 obtain ⟨q, rfl⟩ := hV.ptr
 have hdx : s.dk ≠ x := Blk.ne_ hdk hD (by decide)
 have hbx : b ≠ x := Blk.ne_ hdev hD (by decide)
 have HL := zaa (zef hD rfl)
 have HT := zaa hT
 have HV := zaa (fun W (ho : Only (· = x) w W) => hV.at1 hD (zbl (by decide) (by decide) (by decide)) ho)
 have HXL := zaa hD.lt
 have HRT := zaa hR
 have HP := zaa hp
 have HND := zaa hnd
 have HM0 := zaa hm
 have HDK := zaa hdk
 have HDEV := zaa hdev
 have HRM := zaa hroom
 have H1 := zaa h1
 have H2 := zaa h2
 clear hT hD hV hR hp hnd hm hdk hdev hroom hkb h1 h2
 have e1 : IntKind.i64.wrap (stamp + 1) = stamp + 1 := by rw [IntKind.wrap_i64]; omega
 go_enter_defers Tryz.func24, Tryz.ntmps24
 go_upto_region 9 with (first
  | (go_at_call 51; go_loud (
     refine HL.out.mono ?_; rintro e w1 ⟨rfl, hb1, ho1, hs1⟩
     have hT1 := HT.out.only ho1 htx
     have k0 : w1.cell? ⟨t, 0, none⟩ = some (.pointer (some ⟨x, 0, none⟩)) := zab hT1 0 rfl
     have HM := zaa (zib t x _ s 1 opPut k true w1.heap.size (w1.alloc (.cells #[.string k] 9)) (hT1.alloc _) (hb1.alloc _) rfl (zab (Blk.new w1 9 #[.string k]) 0 rfl) hk)
     rw [HM0.out] at HM
     have k1 := fun o => zai o (zab hT1 1 rfl)
     have k2 := fun o => zai o (zab hT1 2 rfl)
     have HVA := zaa ((HV.out w1 ho1).below ((Below.refl _ _).alloc (Nat.le_refl _) (.cells #[.string k] 9)) (fun _ h => h))
     have HG := zaa (zjq T (.pointer q) ds k (w1.alloc (.cells #[.string k] 9)) HVA.out HRT.out HP.out)
     unfold za7 zk5 at HG
     have HT1 := zaa hT1
     have HB1 := zaa hb1
     have HO1 := zaa ho1
     have HS1 := zaa hs1
     clear hT1 hb1 ho1 hs1))
  | (go_at_call 54; go_loud (
     unfold opPut at HM
     refine HM.out.mono ?_; rintro e w' ⟨v, rfl, ha⟩
     obtain ⟨rfl, rfl⟩ : v = .nilIface /\ w1.alloc (.cells #[.string k] 9) = w' := by
      rcases ha.2 with h | h
      . exact ⟨h.2.1, h.2.2⟩
      . exact absurd rfl h.1
     clear ha))
  | (go_at_call 56; go_loud (
     refine HG.out.mono ?_; rintro e w2 ⟨rfl, hb2⟩
     have HB2 := zaa hb2
     clear hb2)))
 have hbw2 : Below w1.heap.size w1 w2 := ((Below.refl _ _).alloc (Nat.le_refl _) _).trans (HB2.out.mono (by simp))
 have hT2 : TxAt w2 t ⟨x, .pointer q, T.keys, write, done, stamp⟩ := Blk.below HT1.out hbw2 (Blk.lt HT1.out)
 have hD2 : Blk w2 x 91 (zb8 s 1) := HB1.out.below hbw2 HB1.out.lt
 have hV2 : TreeV ok w2 T (.pointer q) ds := HVA.out.below HB2.out (fun _ h => h)
 have hdk2 : Blk w2 s.dk 151 (#[dev b] ++ hd.cells) := (HDK.out.only HO1.out hdx).below hbw2 (HDK.out.only HO1.out hdx).lt
 have hdev2 : DkAt w2 b (.slice A n c) cv m := Blk.below (Blk.only HDEV.out HO1.out hbx) hbw2 (Blk.only HDEV.out HO1.out hbx).lt
 have m0 : w2.cell? ⟨t, 0, none⟩ = some (.pointer (some ⟨x, 0, none⟩)) := zab hT2 0 rfl
 have m1 : w2.cell? ⟨t, 1, none⟩ = some (.pointer q) := zab hT2 1 rfl
 have m2 : w2.cell? ⟨t, 2, none⟩ = some (.int .i64 T.keys) := zab hT2 2 rfl
 have m3 : w2.cell? ⟨x, 2, none⟩ = some (.pointer (some ⟨s.dk, 0, none⟩)) := zab hD2 2 rfl
 have RM := zaa (fun nq => zx3 s.dk b n c hd A cv m (w2.drewN nq) (show Blk (w2.drewN nq) _ _ _ from hdk2) (show DkAt (w2.drewN nq) _ _ _ _ from hdev2) hn)
 have HT2 := zaa hT2
 have HD2 := zaa hD2
 have HV2 := zaa hV2
 clear hT2 hD2 hV2 hdk2 hdev2 hbw2 k1 k2 k0
 obtain ⟨th, hth⟩ : ∃ th, th = (T.get k).isSome := ⟨_, rfl⟩
 rw [<- hth]
 have HTH := zaa hth
 clear hth
 go_cut [60] from 43 to 60 (fun s60 wx => s60 = .bool false /\ ∃ nq, wx = w2.drewN nq)
 case first =>
  cases th with
  | true =>
    go_quiet (fail)
    go_wp2
    go_meet
    exact ⟨rfl, _, rfl⟩
  | false =>
    have hge : ¬ zgi n <= (T.keys : Int) := by
     rcases HRM.out with h | h
     . rw [<- HTH.out] at h; cases h
     . omega
    go_quiet (first | (go_at_call 57; exact zco (RM.out _)))
    go_wp2
    go_meet
    exact ⟨rfl, _, rfl⟩
 case rest =>
  obtain ⟨rfl, nq, rfl⟩ := hcut
  have PUT := zaa (zxs T (.pointer q) ds k v (w2.drewN nq) (HV2.out.below (zad (Below.refl _ _) nq) (fun _ h => h)) HND.out HRT.out HP.out H1.out H2.out)
  unfold za7 at PUT
  go_wp2_with (go_at_call 58; go_loud (
   refine PUT.out.mono ?_; rintro e w3 ⟨rp', ds', rfl, hv3, hnd3, hsub3, hb3⟩
   obtain ⟨q', rfl⟩ := hv3.ptr
   unfold za7
   have hb3' : Below w2.heap.size w2 w3 := (zad (Below.refl _ _) nq).trans hb3
   have hT3 : TxAt w3 t ⟨x, .pointer q, T.keys, write, done, stamp⟩ := Blk.below HT2.out hb3' (Blk.lt HT2.out)
   have n1 : w3.cell? ⟨t, 1, none⟩ = some (.pointer q) := zab hT3 1 rfl
   have n2 : w3.cell? ⟨t, 2, none⟩ = some (.int .i64 T.keys) := zab hT3 2 rfl
   have n5 : w3.cell? ⟨t, 5, none⟩ = some (.int .i64 stamp) := zab hT3 5 rfl
   have z1 : w3.frozen? ⟨t, 1, none⟩ = false := hT3.frozen 1
   have z2 : w3.frozen? ⟨t, 2, none⟩ = false := hT3.frozen 2
   have z5 : w3.frozen? ⟨t, 5, none⟩ = false := hT3.frozen 5
   have HT3 := zaa hT3
   have HV3 := zaa hv3
   have HB3 := zaa hb3'
   clear hT3 hv3 hb3 hb3'))
  obtain ⟨W4, hW4⟩ : ∃ W4, W4 = ((w3.setCell ⟨t, 1, none⟩ (.pointer q')).setCell ⟨t, 2, none⟩ (.int .i64 (T.put k v).keys)).setCell ⟨t, 5, none⟩ (.int .i64 (stamp + 1)) := ⟨_, rfl⟩
  rw [<- hW4]
  have hO4 : Only (· = t) w3 W4 := by rw [hW4]; exact ((Only.set1 _ _ _ _).set2 _ _).set2 _ _
  have hT4 : TxAt W4 t ⟨x, .pointer q', (T.put k v).keys, write, done, stamp + 1⟩ := by rw [hW4]; exact ((Blk.set_ HT3.out 1 _).set_ 2 _).set_ 5 _
  have hD3 : Blk w3 x 91 (zb8 s 1) := HD2.out.below HB3.out HD2.out.lt
  have hD4 : Blk W4 x 91 (zb8 s 1) := hD3.only hO4 (fun e => htx e.symm)
  have hV4 : TreeV (up ok w2.heap.size) W4 (T.put k v) (.pointer q') ds' := HV3.out.at1 HT3.out (zbl (by decide) (by decide) (by decide)) hO4
  refine leaves_cons (f := 52) (args := #[.pointer (some ⟨x, 0, none⟩)]) (by simp) (by simp [go_sem]) ?_
  refine (zcf .returning hD4 rfl).mono ?_
  rintro e u' w5 ⟨rfl, rfl, hb5, ho5, hs5⟩
  have hz2 : w1.heap.size + 1 <= w2.heap.size := by have := HB2.out.size; simpa using this
  have hs1 := HS1.out
  refine ⟨.nilIface, by simp [results, Tryz.results24, go_sem], rfl, hb5, ⟨.pointer q', ds', Blk.only hT4 ho5 htx, ?_, hnd3, ?_⟩, ?_⟩
  . exact (hV4.at1 hD4 (zbl (by decide) (by decide) (by decide)) ho5).move (fun _ _ => rfl) (zyn (by omega))
  . intro y hy
    rcases hsub3 y hy with h | h
    . exact .inl h
    . have h : w2.heap.size <= y := h
      exact .inr (by omega)
  . exact (((((HO1.out.mono fun _ _ h => .inr h).alloc _).below HB2.out).below HB3.out).trans (hO4.mono fun _ _ h => .inl h)).trans (ho5.mono fun _ _ h => .inr h)
structure CPre (w : World) (K b g base n : Nat) (cv : Value) (m : Nums) (bytes : List UInt8) (cache : List (Nat × List UInt8)) (dk : Nat) (hd : Hd) (T : Tree) (rp : Value) (ds : List Nat) (T0 : Tree) (rp0 : Value) : Prop where
 disk : Dk w K b g base n cv m bytes cache
 glob : m.calm \/ (Glob w /\ ¬ dfp b g cv 0)
 dkb : Blk w dk 151 (#[dev b] ++ hd.cells)
 tree : TreeV (fun z => z < w.heap.size) w T rp ds
 nd : ds.Nodup
 old : TreeV (fun z => z < w.heap.size) w T0 rp0 []
 size : 8 <= n /\ n <= 400
 slot : hd.slot < 2
 gen : hd.gen + 1 < 1073741824
 fit : TN (fun h n => Tr.size h n <= 116 /\ (h = 0 \/ 1 <= Tr.len h n)) T
 small : TN zc4 T
 room : ds.length <= (fr (zb2 [(T0, rp0, [])] T) n 2).length
 num : K + ds.length + 10 < zbf
 cache_ : cache.length < 80000
theorem CPre.comIn {w W : World} {K b g base n : Nat} {cv : Value} {m : Nums} {bytes : List UInt8} {cache : List (Nat × List UInt8)} {dk : Nat} {hd : Hd} {T : Tree} {rp : Value} {ds : List Nat} {T0 : Tree} {rp0 : Value} (h : CPre w K b g base n cv m bytes cache dk hd T rp ds T0 rp0) {fp : Nat -> Prop} (ho : Only fp w W)
   (hne : ∀ y T cs, Blk w y T cs -> T ≠ 94 -> T ≠ 91 -> ¬ fp y) (hgl : Glob w -> ¬ fp 0) {gr : Nat} (hg : Blk W gr 88 #[rp0, .int .i64 T0.keys]) : zie W K b g base n cv m bytes cache dk hd T rp ds (some ⟨gr, 0, none⟩) 1 [(T0, rp0, [])] := by
 have himm : ∀ z T cs, Blk w z T cs -> Imm T -> ¬ fp z := fun z T' cs hz hT => hne z T' cs hz (fun e => zbl (X := 94) (by decide) (by decide) (by decide) (e ▸ hT)) (fun e => zbl (X := 91) (by decide) (by decide) (by decide) (e ▸ hT))
 have ht : ∀ {T rp ds}, TreeV (fun z => z < w.heap.size) w T rp ds -> TreeV (fun z => z < W.heap.size) W T rp ds := fun hv => (hv.only ho fun z T cs _ hz hT => himm z T cs hz hT).more fun z hz => Nat.lt_of_lt_of_le hz ho.size
 refine ⟨h.disk.only ho (fun x hx e => ?_), h.glob.imp id (fun ⟨hg, h0⟩ => ⟨hg.only ho (hgl hg), h0⟩), h.dkb.only ho (hne _ _ _ h.dkb (by decide) (by decide)), ht h.tree, h.nd, fun i hi => ?_, ⟨by simp, by simp, by unfold maxLen; omega⟩, h.size, h.slot, h.gen, h.fit, h.small, h.room, h.num, h.cache_⟩
 . rcases hx with rfl | rfl | hx
   . exact hne _ _ _ h.disk.at_ (by decide) (by decide) e
   . exact hne _ _ _ h.disk.blk (by decide) (by decide) e
   . rcases h.disk.own.2 with ⟨h0, _⟩ | ⟨g', cap, cur, e1, e2, e3, e4⟩
     . rw [h0] at hx; simp [Value.ownBlock] at hx
     . rw [e1] at hx
       have : x = g' := by simpa [Value.ownBlock] using hx
       subst this
       exact hne _ _ _ (show Blk w x 113 cur from e3) (by decide) (by decide) e
 . have : i = 0 := by simp at hi; exact hi
   subst this
   exact ⟨gr, 0, rfl, hg.lt, zab hg 0 rfl, zab hg 1 rfl, ht h.old⟩
theorem zwg (W : World) (rd clk : Nat) (h : W.heap[rd]? = some (.map #[] clk)) (ty : TypeId) : (Instr.next (.pointer (some ⟨W.heap.size, 0, none⟩)) false ty).run Tryz.prog (W.alloc (.mapIter (some rd) clk #[] clk)) = .ok (.tuple #[.bool false]) (W.alloc (.mapIter (some rd) clk #[] clk)) := by
 rcases run_next_map (P := Tryz.prog) W ty rd clk clk #[] #[] clk h (fun x hx => by cases hx) (Nat.le_refl _) with ⟨_, hrun⟩ | ⟨e, he, _⟩
 . exact hrun
 . have := (mem_left he).1
   cases this
structure zyo (w : World) (K b g base n : Nat) (cv : Value) (m : Nums) (bytes : List UInt8) (cache : List (Nat × List UInt8)) (hd : Hd) (T : Tree) (rp : Value) (ds : List Nat) (T0 : Tree) (s : DbS) (t x : Nat) (stamp : Int) (w' : World) : Prop where
 db : DbAt w' x ⟨s.dk, rp, T.keys, .pointer none, s.rd, false⟩
 rd : RdAt w' s.rd []
 tx : TxAt w' t ⟨x, rp, T.keys, true, true, stamp⟩
 disk : Dk w' (K + ds.length + 3) b g base n (.slice none 0 0) (zde m ds.length).tick.wrote.tick (zcp (zap bytes (cache ++ zao (T.lay (hd.gen + 1) true (zbb [(T0, s.root, [])] T n ds.length)))) (1 - hd.slot, pad 128 (zam (hd.gen + 1) (T.lay (hd.gen + 1) true (zbb [(T0, s.root, [])] T n ds.length)).rblk (T.lay (hd.gen + 1) true (zbb [(T0, s.root, [])] T n ds.length)).rgen))) []
 dkb : Blk w' s.dk 151 (#[dev b] ++ zay (1 - hd.slot) (hd.gen + 1) (T.lay (hd.gen + 1) true (zbb [(T0, s.root, [])] T n ds.length)).rblk (T.lay (hd.gen + 1) true (zbb [(T0, s.root, [])] T n ds.length)).rgen)
 tree : TreeV (fun z => z < w'.heap.size) w' (T.lay (hd.gen + 1) false (zbb [(T0, s.root, [])] T n ds.length)) rp []
 only : Only (fun y => (dfp b g cv y \/ y = s.dk \/ y ∈ ds) \/ y = t \/ y = x \/ y = s.rd) w w'
theorem zr2 (f n : Nat) (s : ByteArray) (w : World) (hF : zbj w f s n) (hg : Glob w) : Calls Tryz.prog 61 #[zau f] w fun e w' => e = .returned (.int .i64 n) /\ Below w.heap.size w w' := by
 have hbel : Below w.heap.size w (w.alloc (.cells #[.int .i64 0] 44)) := (Below.refl _ _).alloc (Nat.le_refl _) _
 have HA := zaa (zja f n s w.heap.size 0 (w.alloc (.cells #[.int .i64 0] 44)) (hF.below hbel hF.lt) (hg.alloc _) (Blk.new _ _ _))
 unfold zau at HA
 clear hF hg
 unfold zau
 go_enter Tryz.func61, Tryz.ntmps61
 go_wp2_with (go_at_call 63; refine HA.out.mono ?_; rintro e w' ⟨rfl, hb, ho⟩; have hc := zab hb 0 rfl)
 go_ret
 exact ⟨rfl, hbel.trans (ho.to_below (by simp) fun x hx => by omega)⟩
def z3i (w : World) (K b g base n : Nat) (cv : Value) (m : Nums) (bytes : List UInt8) (cache : List (Nat × List UInt8)) (hd : Hd) (T : Tree) (rp : Value) (ds : List Nat) (T0 : Tree) (s : DbS) (t x : Nat) (stamp : Int) (e : Ending) (w' : World) : Prop :=
 ∃ m1 f cv' bytes' cache', m1.bad = true /\ Later m m1 /\ e = .returned (zau f) /\ zbj w' f zgp 8 /\ Glob w' /\ w.heap.size <= f /\ Dk w' (K + ds.length + 3) b g base n cv' m1.tick bytes' cache' /\
   CutAt ds.length bytes cache (zao (T.lay (hd.gen + 1) true (zbb [(T0, s.root, [])] T n ds.length))) (1 - hd.slot, pad 128 (zam (hd.gen + 1) (T.lay (hd.gen + 1) true (zbb [(T0, s.root, [])] T n ds.length)).rblk (T.lay (hd.gen + 1) true (zbb [(T0, s.root, [])] T n ds.length)).rgen)) bytes' cache' /\
   DbAt w' x ⟨s.dk, s.root, s.keys, .pointer none, s.rd, true⟩ /\ TxAt w' t ⟨x, rp, T.keys, true, true, stamp⟩ /\ Only (fun y => (dfp b g cv y \/ y = s.dk \/ y ∈ ds) \/ y = t \/ y = x \/ y = s.rd) w w'
set_option maxHeartbeats 3200000 in
theorem zki (t x : Nat) (rp : Value) (T : Tree) (ds : List Nat) (stamp : Int) (s : DbS) (T0 : Tree) (K b g base n : Nat) (cv : Value) (m : Nums) (bytes : List UInt8) (cache : List (Nat × List UInt8)) (hd : Hd) (w : World) (hT : TxAt w t ⟨x, rp, T.keys, true, false, stamp⟩) (hD : DbAt w x s) (hpoi : s.poi = false) (hr : RdAt w s.rd []) (hk0 : s.keys = T0.keys)
   (h : CPre w K b g base n cv m bytes cache s.dk hd T rp ds T0 s.root) :
   Calls Tryz.prog 26 #[.pointer (some ⟨t, 0, none⟩)] w fun e w' => (e = .returned .nilIface /\ zyo w K b g base n cv m bytes cache hd T rp ds T0 s t x stamp w') \/ z3i w K b g base n cv m bytes cache hd T rp ds T0 s t x stamp e w' := by
 obtain ⟨q, hq⟩ := h.tree.ptr
 obtain ⟨q0, hq0⟩ := h.old.ptr
 have t0 : w.cell? ⟨t, 0, none⟩ = some (.pointer (some ⟨x, 0, none⟩)) := zab hT 0 rfl
 have htx : t ≠ x := Blk.ne_ hT hD (by decide)
 have hrt : s.rd ≠ t := hr.ne_blk hT
 have hrx : s.rd ≠ x := hr.ne_blk hD
 have HL := zaa (zef hD rfl)
 have HT := zaa hT
 have HR := zaa hr
 have HD := zaa hD
 have H0 := zaa h
 have HPOI := zaa hpoi
 have HQ := zaa hq
 have HQ0 := zaa hq0
 have HK0 := zaa hk0
 clear hT hD hr h hpoi hq hq0 hk0
 go_enter_defers Tryz.func26, Tryz.ntmps26
 go_upto_region 10 with (first
  | (go_at_call 51; go_loud (
     refine HL.out.mono ?_; rintro e w1 ⟨rfl, hb1, ho1, hs1⟩
     have hT1 := HT.out.only ho1 htx
     have k0 : w1.cell? ⟨t, 0, none⟩ = some (.pointer (some ⟨x, 0, none⟩)) := zab hT1 0 rfl
     have HM := zaa (zk9 t x _ s 1 ⟨#[99, 111, 109, 109, 105, 116]⟩ false w1 hT1 hb1 rfl)
     have HE := zaa (zsy t x _ s 1 [] w1 hT1 hb1 rfl (HR.out.only ho1 hrx) (fun k hk => by cases hk))
     rw [show mayC s.poi false false true = 0 by rw [HPOI.out]; rfl] at HM
     have HO1 := zaa ho1
     clear hT1 hb1 ho1 hs1))
  | (go_at_call 54; go_loud (
     refine HM.out.mono ?_; rintro e w' ⟨v, rfl, ha⟩
     obtain ⟨rfl, rfl⟩ : v = .nilIface /\ w1 = w' := by
      rcases ha.2 with h | h
      . exact ⟨h.2.1, h.2.2⟩
      . exact absurd rfl h.1
     clear ha))
  | (go_at_call 59; go_loud (
     refine HE.out.mono ?_; rintro e w2 ⟨rfl, hT2, hD2, hR2, ho2⟩
     have m0 : w2.cell? ⟨t, 0, none⟩ = some (.pointer (some ⟨x, 0, none⟩)) := zab hT2 0 rfl
     have m3 : w2.cell? ⟨t, 3, none⟩ = some (.bool true) := zab hT2 3 rfl
     have n3 : w2.cell? ⟨x, 3, none⟩ = some (.pointer q0) := by rw [<- HQ0.out]; exact zab hD2 3 rfl
     have n4 : w2.cell? ⟨x, 4, none⟩ = some (.int .i64 T0.keys) := by rw [<- HK0.out]; exact zab hD2 4 rfl
     have HT2 := zaa hT2
     have HD2 := zaa hD2
     have HR2 := zaa hR2
     have HO2 := zaa ho2
     clear hT2 hD2 hR2 ho2)))
 have hrm := @run_range_map Tryz.prog
 obtain ⟨es, clk, hm2, hmk, _⟩ := HR2.out
 obtain rfl : es = #[] := by
  have : es.toList = [] := by simpa using hmk
  exact Array.toList_eq_nil_iff.1 this
 obtain ⟨W3, hW3⟩ : ∃ W3, W3 = w2.alloc (.cells #[.pointer q0, .int .i64 T0.keys] 88) := ⟨_, rfl⟩
 rw [<- hW3]
 have hb3 : Below w2.heap.size w2 W3 := by rw [hW3]; exact (Below.refl _ _).alloc (Nat.le_refl _) _
 have hg3 : Blk W3 w2.heap.size 88 #[.pointer q0, .int .i64 T0.keys] := by rw [hW3]; exact Blk.new _ _ _
 have hm3 : W3.heap[s.rd]? = some (.map #[] clk) := (hb3.block s.rd (Array.getElem?_eq_some_iff.1 hm2).1).trans hm2
 have hrg := run_range_map (P := Tryz.prog) W3 89 29 3 s.rd #[] clk Tryz.underlying89 hm3
 have hnx := zwg W3 s.rd clk hm3
 have hb4 : Below W3.heap.size W3 (W3.alloc (.mapIter (some s.rd) clk #[] clk)) := (Below.refl _ _).alloc (Nat.le_refl _) _
 obtain ⟨W4, hW4⟩ : ∃ W4, W4 = W3.alloc (.mapIter (some s.rd) clk #[] clk) := ⟨_, rfl⟩
 rw [<- hW4] at hrg hnx hb4
 have hbl4 : Below w2.heap.size w2 W4 := hb3.trans (hb4.mono hb3.size)
 have hT4 : TxAt W4 t ⟨x, rp, T.keys, true, true, stamp⟩ := Blk.below HT2.out hbl4 (Blk.lt HT2.out)
 have hD4 : Blk W4 x 91 (zb8 (s.ended true) 1) := HD2.out.below hbl4 HD2.out.lt
 have n6 : W3.cell? ⟨x, 6, none⟩ = some (.map (some s.rd)) := zab (HD2.out.below hb3 HD2.out.lt) 6 rfl
 have n0 : W3.cell? ⟨t, 0, none⟩ = some (.pointer (some ⟨x, 0, none⟩)) := zab (Blk.below HT2.out hb3 (Blk.lt HT2.out)) 0 rfl
 have p0 : W4.cell? ⟨t, 0, none⟩ = some (.pointer (some ⟨x, 0, none⟩)) := zab hT4 0 rfl
 have p1 : W4.cell? ⟨t, 1, none⟩ = some (.pointer q) := by rw [<- HQ.out]; exact zab hT4 1 rfl
 have p2 : W4.cell? ⟨t, 2, none⟩ = some (.int .i64 T.keys) := zab hT4 2 rfl
 have p3 : W4.cell? ⟨x, 2, none⟩ = some (.pointer (some ⟨s.dk, 0, none⟩)) := zab hD4 2 rfl
 have hO4 : Only (fun y => y = t \/ y = x \/ y = s.rd) w W4.drew := (((HO1.out.mono fun _ _ h => .inr (.inl h)).trans HO2.out).below hbl4).drew
 have hne4 : ∀ y T cs, Blk w y T cs -> T ≠ 94 -> T ≠ 91 -> ¬ (y = t \/ y = x \/ y = s.rd) := fun y T cs hy a1 a2 e => by
  rcases e with e | e | e
  . exact Blk.ne_ hy HT.out a1 e
  . exact Blk.ne_ hy HD.out a2 e
  . exact HR.out.ne_blk hy e.symm
 have hgl4 : Glob w -> ¬ (0 = t \/ 0 = x \/ 0 = s.rd) := fun hg e => by
  rcases e with e | e | e
  . have h1 := zab (show Blk w 0 _ _ from e ▸ HT.out) 0 rfl
    rw [hg] at h1; cases h1
  . have h1 := zab (show Blk w 0 _ _ from e ▸ HD.out) 0 rfl
    rw [hg] at h1; cases h1
  . obtain ⟨es0, clk0, hm0, _⟩ := HR.out
    rw [<- e] at hm0
    unfold Glob World.cell? at hg
    rw [hm0] at hg; cases hg
 have hcin : zie W4.drew K b g base n cv m bytes cache s.dk hd T rp ds (some ⟨w2.heap.size, 0, none⟩) 1 [(T0, s.root, [])] := H0.out.comIn hO4 hne4 hgl4 (by rw [HQ0.out]; exact (hg3.below hb4 hg3.lt).drew)
 have COM := zaa (show Calls Tryz.prog 60 #[.pointer (some ⟨s.dk, 0, none⟩), za7 rp T.keys, .slice (some ⟨w2.heap.size, 0, none⟩) 1 1] W4.drew (fun e w' => ∃ v, e = .returned v /\ Only (fun y => dfp b g cv y \/ y = s.dk \/ y ∈ ds) W4.drew w' /\ ((v = .nilIface /\ zwe W4.drew K b g base n cv m bytes cache s.dk hd T rp ds [(T0, s.root, [])] w') \/ zwf W4.drew K b g base n cv m bytes cache s.dk hd T ds [(T0, s.root, [])] (.returned v) w')) from (zun K b g base n cv m bytes cache s.dk hd T rp ds (some ⟨w2.heap.size, 0, none⟩) 1 [(T0, s.root, [])] W4.drew hcin).mono fun e w' hp => by
  rcases hp with ⟨rfl, h⟩ | h
  . exact ⟨_, rfl, h.only, .inl ⟨rfl, h⟩⟩
  . obtain ⟨m1, f, cv', bytes', cache', a1, a2, rfl, a3⟩ := h
    exact ⟨_, rfl, a3.2.2.2.2.2, .inr ⟨m1, f, cv', bytes', cache', a1, a2, rfl, a3⟩⟩)
 unfold za7 at COM
 rw [HQ.out] at COM
 have HTR := zaa hcin
 have HT4 := zaa hT4
 have HD4 := zaa hD4
 have HO4 := zaa hO4
 have HM3 := zaa hm3
 have HB4 := zaa hb4
 have HW4 := zaa hW4
 have S4 := zaa (show W4.drew.cell? ⟨t, 0, none⟩ = some (.pointer (some ⟨x, 0, none⟩)) /\ W4.drew.cell? ⟨x, 2, none⟩ = some (.pointer (some ⟨s.dk, 0, none⟩)) /\ W4.drew.cell? ⟨t, 1, none⟩ = some (.pointer q) /\ W4.drew.cell? ⟨t, 2, none⟩ = some (.int .i64 T.keys) from ⟨p0, p3, p1, p2⟩)
 clear hm2 hmk hW3 hb3 hg3 hm3 hbl4 hT4 hD4 hO4 hne4 hcin hb4 hrm m0 m3 n3 n4 p1 p2 p3 hW4
 go_wp2_with fail
 refine wp_loop_rounds 1 ?_
 rw [rounds_succ]
 go_upto_region 14 with fail
 go_region_held3 (fun w' => w'.cell? ⟨t, 0, none⟩ = some (.pointer (some ⟨x, 0, none⟩)) /\ w'.cell? ⟨x, 2, none⟩ = some (.pointer (some ⟨s.dk, 0, none⟩)) /\ w'.cell? ⟨t, 1, none⟩ = some (.pointer q) /\ w'.cell? ⟨t, 2, none⟩ = some (.int .i64 T.keys)) (first | exact S4.out | assumption)
  (first
   | (go_at_call 60; (with_reducible refine COM.out.mono ?_); rintro e w5 ⟨v5, rfl, hon5, hout⟩
      have hk5 : ∀ {y T cs}, Blk W4.drew y T cs -> T ≠ 103 -> T ≠ 111 -> T ≠ 113 -> T ≠ 151 -> T ≠ 137 -> Blk w5 y T cs := fun hy a1 a2 a3 a4 a5 => hy.only hon5 fun e => by
       rcases e with e | e | e
       . exact HTR.out.disk.ne hy a1 a2 a3 e
       . exact Blk.ne_ hy HTR.out.dkb a4 e
       . obtain ⟨_, _, _, _, hn⟩ := HTR.out.tree.dirt _ e
         exact Blk.ne_ hy hn a5 rfl
      have hT5 : TxAt w5 t ⟨x, rp, T.keys, true, true, stamp⟩ := hk5 (show Blk W4.drew t _ _ from HT4.out) (by decide) (by decide) (by decide) (by decide) (by decide)
      have hD5 : Blk w5 x 91 (zb8 (s.ended true) 1) := hk5 (show Blk W4.drew x _ _ from HD4.out) (by decide) (by decide) (by decide) (by decide) (by decide)
      have hs5 : w5.cell? ⟨t, 0, none⟩ = some (.pointer (some ⟨x, 0, none⟩)) /\ w5.cell? ⟨x, 2, none⟩ = some (.pointer (some ⟨s.dk, 0, none⟩)) /\ w5.cell? ⟨t, 1, none⟩ = some (.pointer q) /\ w5.cell? ⟨t, 2, none⟩ = some (.int .i64 T.keys) := ⟨zab hT5 0 rfl, zab hD5 2 rfl, by rw [<- HQ.out]; exact zab hT5 1 rfl, zab hT5 2 rfl⟩
      have S5 := zaa hs5
      have HT5 := zaa hT5
      have HD5 := zaa hD5
      have HON5 := zaa hon5
      have HOUT' := zaa hout
      clear hk5 hT5 hD5 hout hon5))
 rcases HOUT'.out with ⟨rfl, hout⟩ | ⟨m1, f, cv', bytes', cache', a1, a2, a3, a4, a5, a6, a7, a8, _⟩
 rotate_left
 . injection a3 with a3
   subst a3
   have hbd : Below w5.heap.size w5 w5.drew := (Below.refl _ _).drew
   have EN := zaa (zr2 f 8 _ w5.drew (a4.below hbd a4.lt) (a5.below hbd))
   have A9 := zaa (And.intro a1 (And.intro a2 (And.intro a4 (And.intro a5 (And.intro a6 (And.intro a7 a8))))))
   have U0 := zaa (show w5.drew.cell? ⟨t, 0, none⟩ = some (.pointer (some ⟨x, 0, none⟩)) from S5.out.1)
   have hxt : ¬ x = t := fun e => htx e.symm
   have htx' : ¬ t = x := htx
   unfold zau at EN
   clear a1 a2 a4 a5 a6 a7 a8 n0 n6 p0 hrg hnx hbd
   unfold zau
   go_upto_region 18 with fail
   go_region_held3 (fun w' => w'.cell? ⟨t, 0, none⟩ = some (.pointer (some ⟨x, 0, none⟩))) (first | exact U0.out | go_keep | assumption)
    (first
     | (go_at_call 61; (with_reducible refine EN.out.mono ?_); rintro e w6 ⟨rfl, hb6⟩
        have hD6 : Blk w6 x 91 (zb8 (s.ended true) 1) := HD5.out.drew.below hb6 HD5.out.lt
        have hT6 : TxAt w6 t ⟨x, rp, T.keys, true, true, stamp⟩ := Blk.below (Blk.drew HT5.out) hb6 (Blk.lt HT5.out)
        have hs6 : w6.cell? ⟨t, 0, none⟩ = some (.pointer (some ⟨x, 0, none⟩)) := zab hT6 0 rfl
        have v7 : w6.frozen? ⟨x, 7, none⟩ = false := hD6.frozen 7
        have u7 : w6.cell? ⟨x, 7, none⟩ = some (.bool s.poi) := zab hD6 7 rfl
        have HD6 := zaa hD6
        have HT6 := zaa hT6
        have HB6 := zaa hb6
        clear hD6 hT6 hb6))
   go_wp2
   obtain ⟨W7, hW7⟩ : ∃ W7, W7 = w6.setCell ⟨x, 7, none⟩ (.bool true) := ⟨_, rfl⟩
   rw [<- hW7]
   have hO7 : Only (· = x) w6 W7 := by rw [hW7]; exact Only.set1 _ _ _ _
   have hD7 : Blk W7 x 91 (zb8 ⟨s.dk, s.root, s.keys, .pointer none, s.rd, true⟩ 1) := by rw [hW7]; exact HD6.out.set_ 7 (.bool true)
   refine leaves_cons (f := 52) (args := #[.pointer (some ⟨x, 0, none⟩)]) (by simp) (by simp [go_sem]) ?_
   refine (zcf .returning hD7 rfl).mono ?_
   rintro e u' w8 ⟨rfl, rfl, hb8, ho8, hs8⟩
   have hO58 : Only (· = x) w5 w8 := (((Only.refl (· = x) w5).drew.below HB6.out).trans hO7).trans ho8
   obtain ⟨a1, a2, a4, a5, a6, a7, a8⟩ := A9.out
   refine ⟨.iface 128 (.pointer (some ⟨f, 0, none⟩)), by simp [results, Tryz.results26, go_sem], .inr ⟨m1, f, cv', bytes', cache', a1, a2, rfl, Blk.only a4 hO58 (fun e => Blk.ne_ a4 HD5.out (by decide) e), a5.only hO58 (fun e => ?_), Nat.le_trans HO4.out.size a6, a7.only hO58 (fun y hy e => ?_), a8, hb8, Blk.only HT5.out hO58 htx, ?_⟩⟩
   . have h1 := zab (show Blk w5 0 _ _ from e ▸ HD5.out) 0 rfl
     rw [a5] at h1; cases h1
   . subst e; exact a7.ne HD5.out (by decide) (by decide) (by decide) hy
   . exact ((HO4.out.mono fun y _ h => .inr h).trans (HON5.out.mono fun y _ h => .inl h)).trans (hO58.mono fun y _ h => .inr (.inr (.inl h)))
 have HOUT := zaa hout
 clear hout
 have u0 : w5.cell? ⟨t, 0, none⟩ = some (.pointer (some ⟨x, 0, none⟩)) := S5.out.1
 have u1 : w5.cell? ⟨t, 1, none⟩ = some (.pointer q) := S5.out.2.2.1
 have u2 : w5.cell? ⟨t, 2, none⟩ = some (.int .i64 T.keys) := S5.out.2.2.2
 have u3 : w5.cell? ⟨x, 3, none⟩ = some s.root := zab HD5.out 3 rfl
 have u4 : w5.cell? ⟨x, 4, none⟩ = some (.int .i64 s.keys) := zab HD5.out 4 rfl
 have v3 : w5.frozen? ⟨x, 3, none⟩ = false := HD5.out.frozen 3
 have v4 : w5.frozen? ⟨x, 4, none⟩ = false := HD5.out.frozen 4
 have hxt : ¬ x = t := fun e => htx e.symm
 have htx' : ¬ t = x := htx
 have S6 := zaa (show ∀ w6, w6 = (w5.setCell ⟨x, 3, none⟩ (.pointer q)).setCell ⟨x, 4, none⟩ (.int .i64 T.keys) -> w6.cell? ⟨t, 0, none⟩ = some (.pointer (some ⟨x, 0, none⟩)) /\ w6.cell? ⟨t, 1, none⟩ = some (.pointer q) /\ w6.cell? ⟨t, 2, none⟩ = some (.int .i64 T.keys) from fun w6 e => by
  have hO : Only (· = x) w5 w6 := by rw [e]; exact (Only.set1 _ _ _ _).set2 _ _
  have := Blk.only HT5.out hO htx
  exact ⟨zab this 0 rfl, by rw [<- HQ.out]; exact zab this 1 rfl, zab this 2 rfl⟩)
 clear n0 n6 p0 hrg hnx
 go_upto_region 16 with fail
 go_region_held3 (fun w' => w'.cell? ⟨t, 0, none⟩ = some (.pointer (some ⟨x, 0, none⟩)) /\ w'.cell? ⟨t, 1, none⟩ = some (.pointer q) /\ w'.cell? ⟨t, 2, none⟩ = some (.int .i64 T.keys)) (first | go_keep | exact S6.out _ rfl) (fail)
 go_wp2
 obtain ⟨W6, hW6⟩ : ∃ W6, W6 = ((w5.setCell ⟨x, 3, none⟩ (.pointer q)).setCell ⟨x, 4, none⟩ (.int .i64 T.keys)).drew := ⟨_, rfl⟩
 rw [<- hW6]
 have hO6 : Only (· = x) w5 W6 := by rw [hW6]; exact ((Only.set1 _ _ _ _).set2 _ _).drew
 have hD6 : Blk W6 x 91 (zb8 ⟨s.dk, rp, T.keys, .pointer none, s.rd, false⟩ 1) := by
  rw [hW6, HQ.out, <- HPOI.out]
  exact ((HD5.out.set_ 3 (.pointer q)).set_ 4 (.int .i64 T.keys)).drew
 refine leaves_cons (f := 52) (args := #[.pointer (some ⟨x, 0, none⟩)]) (by simp) (by simp [go_sem]) ?_
 refine (zcf .returning hD6 rfl).mono ?_
 rintro e u' w7 ⟨rfl, rfl, hb7, ho7, hs7⟩
 have hO57 : Only (· = x) w5 w7 := hO6.trans ho7
 have hmap4 : W4.heap[s.rd]? = some (.map #[] clk) := (HB4.out.block s.rd (Array.getElem?_eq_some_iff.1 HM3.out).1).trans HM3.out
 have hrdn : ¬ (dfp b g cv s.rd \/ s.rd = s.dk \/ s.rd ∈ ds) := by
  have hno : ∀ {y T cs}, Blk W4.drew y T cs -> s.rd ≠ y := fun hy e => by
   subst e
   have hy : W4.heap[s.rd]? = _ := hy
   rw [hmap4] at hy; cases hy
  rintro (e | e | e)
  . rcases e with e | e | e
    . exact hno HTR.out.disk.at_ e
    . exact hno HTR.out.disk.blk e
    . rcases HTR.out.disk.own.2 with ⟨h0, _⟩ | ⟨g', cap, cur, e1, e2, e3, e4⟩
      . rw [h0] at e; simp [Value.ownBlock] at e
      . rw [e1] at e
        have : s.rd = g' := by simpa [Value.ownBlock] using e
        exact hno (show Blk W4.drew g' 113 cur from e3) this
  . exact hno HTR.out.dkb e
  . obtain ⟨_, _, _, _, hn⟩ := HTR.out.tree.dirt _ e
    exact hno hn rfl
 have hmap5 : w5.heap[s.rd]? = some (.map #[] clk) := (HOUT.out.only.block s.rd (Array.getElem?_eq_some_iff.1 hmap4).1 hrdn).trans hmap4
 have hrd7 : RdAt w7 s.rd [] := RdAt.only (⟨#[], clk, hmap5, rfl, by simp, by simp⟩ : RdAt w5 s.rd []) hO57 hrx
 refine ⟨.nilIface, by simp [results, Tryz.results26, go_sem], .inl ⟨rfl, hb7, hrd7, Blk.only HT5.out hO57 htx, HOUT.out.disk.only hO57 (fun y hy e => ?_), HOUT.out.dkb.only hO57 (fun e => Blk.ne_ HOUT.out.dkb HD5.out (by decide) e), ?_, ?_⟩⟩
 . subst e; exact HOUT.out.disk.ne HD5.out (by decide) (by decide) (by decide) hy
 . rw [HQ.out]; exact (HOUT.out.tree.at1 HD5.out (zbl (by decide) (by decide) (by decide)) hO57).more fun z hz => Nat.lt_of_lt_of_le hz (Nat.le_trans HOUT.out.only.size hO57.size)
 . exact ((HO4.out.mono fun y _ h => .inr h).trans (HOUT.out.only.mono fun y _ h => .inl h)).trans (hO57.mono fun y _ h => .inr (.inr (.inl h)))
theorem zuo (t x : Nat) (rp : Value) (T : Tree) (ds : List Nat) (stamp : Int) (s : DbS) (T0 : Tree) (K b g base n : Nat) (cv : Value) (m : Nums) (bytes : List UInt8) (cache : List (Nat × List UInt8)) (hd : Hd) (w : World) (hT : TxAt w t ⟨x, rp, T.keys, true, false, stamp⟩) (hD : DbAt w x s) (hpoi : s.poi = false) (hr : RdAt w s.rd []) (hk0 : s.keys = T0.keys)
   (h : CPre w K b g base n cv m bytes cache s.dk hd T rp ds T0 s.root) (hc : m.calm) :
   Calls Tryz.prog 26 #[.pointer (some ⟨t, 0, none⟩)] w fun e w' => e = .returned .nilIface /\ zyo w K b g base n cv m bytes cache hd T rp ds T0 s t x stamp w' :=
 (zki t x rp T ds stamp s T0 K b g base n cv m bytes cache hd w hT hD hpoi hr hk0 h).mono fun e w' hp => hp.elim id fun ⟨_, _, _, _, _, a1, a2, _⟩ => by
  rw [(a2.calm hc).bad] at a1; cases a1
theorem zwh {V : Str -> Prop} (g : Nat) (d : Bool) : ∀ (h : Nat) (n : Tr h) (xs : List Nat), KS V h n -> KS V h (lay g d h n xs)
 | 0, n, xs, hn => by
   by_cases hd : Nd.dirty n = true
   . rw [zcy xs hd]; exact hn
   . rw [zcz xs hd]; exact hn
 | h + 1, n, xs, hn => by
   have hk : ∀ (X : List (Str × Tr h)) (ys : List Nat), KL V h X -> KL V h (za3 (lay g d h) X ys) := by
    intro X
    induction X with
    | nil => intro _ _ e he; cases he
    | cons a X ih =>
      intro ys h1 e he
      obtain ⟨k, c⟩ := a
      simp only [za3] at he
      rcases List.mem_cons.1 he with rfl | he
      . have := h1 (k, c) (by simp)
        exact ⟨this.1, zwh g d h c _ this.2⟩
      . exact ih _ (fun e he => h1 e (by simp [he])) e he
   by_cases hd : Nd.dirty n = true
   . rw [zcb xs hd]; exact hk (Nd.es n) xs hn
   . rw [zc7 xs hd]; exact hk (Nd.es n) xs hn
theorem TK.lay {V : Str -> Prop} {t : Tree} (ht : TK V t) (g : Nat) (d : Bool) (xs : List Nat) : TK V (t.lay g d xs) := by
 refine ⟨fun h n hr => ?_⟩
 unfold Tree.lay at hr
 cases h' : t.root with
 | none => rw [h'] at hr; cases hr
 | some r =>
   rw [h'] at hr
   simp only [Option.map_some, Option.some.injEq] at hr
   cases hr
   exact zwh g d r.1 r.2 xs (ht.some_ r.1 r.2 h')
theorem zmm : ∀ (h : Nat) (n : Tr h), Reg h n -> NS (fun h n => h = 0 \/ 1 <= Tr.len h n) h n
 | 0, _, _ => .inl rfl
 | h + 1, n, hr => ⟨.inr (show 1 <= (Nd.es n).length by have : 3 <= (Nd.es n).length := hr.1; omega), fun e he => zmm h e.2 (hr.2 e he)⟩
theorem zmn : ∀ (h : Nat) (n : Tr h), Top h n -> NS (fun h n => h = 0 \/ 1 <= Tr.len h n) h n
 | 0, _, _ => .inl rfl
 | h + 1, n, ht => by
   rcases ht with ⟨h1, h2⟩ | ⟨e, he, ht⟩
   . exact ⟨.inr (show 1 <= (Nd.es n).length by have : 2 <= (Nd.es n).length := h1; omega), fun e he => zmm h e.2 (h2 e he)⟩
   . refine ⟨.inr (show 1 <= (Nd.es n).length by rw [he]; simp), fun x hx => ?_⟩
     rw [he] at hx
     rw [List.mem_singleton.1 hx]
     exact zmn h e.2 ht
theorem TF.q0 {t : Tree} (ht : TF t) : TN Q0 t := fun h n hr => by
 obtain ⟨a, b, _, _⟩ := ht.some_ h n hr
 exact (zjb h n b).and (zmn h n a)
structure Good (V : Str -> Prop) (t : Tree) : Prop where
 tr : TR t
 tf : TF t
 tk : TK V t
 sm : TN zc4 t
 few : t.keys <= 129
theorem Good.empty {V : Str -> Prop} : Good V ⟨none, 0⟩ := ⟨TR.empty, TF.empty, TK.empty, TN.empty, Nat.zero_le _⟩
theorem Good.pairs {V : Str -> Prop} {t : Tree} (h : Good V t) : t.pairs.length <= 150 := by have := h.few; rw [h.tr.tw.keys_] at this; omega
theorem Good.put {V : Str -> Prop} {t : Tree} (h : Good V t) (h0 : V noKey) {k v : Str} (hk : V k) (h1 : zb1 k) (h2 : okVal v) (hf : (t.put k v).keys <= 129) : Good V (t.put k v) /\ zar (t.put k v) <= zar t + 9 := by
 have := z0r h.tr.tw h.tf h1 h2 hf
 exact ⟨⟨h.tr.put h1 h2, this.1, h.tk.put h0 hk, h.sm.put zv5 k v, hf⟩, this.2⟩
theorem zm9 (t : Tree) (k : Str) : (t.delete k).keys <= t.keys := by
 unfold Tree.delete
 split
 . exact Nat.le_refl _
 . split
   . exact Nat.sub_le _ _
   . exact Nat.le_refl _
theorem z1m {t : Tree} {g n0 : Nat} {xs : List Nat} (hg : g < 4294967296) (h0 : 0 < n0) (hn0 : n0 <= 65536) (hq : TN Q0 t) (hs : TN zc4 t) (hx : ∀ x ∈ xs, x < n0) : TN zc4 (t.lay g false xs) := by
 intro h n hr
 unfold Tree.lay at hr
 cases h' : t.root with
 | none => rw [h'] at hr; cases hr
 | some r =>
   rw [h'] at hr
   simp only [Option.map_some, Option.some.injEq] at hr
   cases hr
   rcases zqj (d := false) hg h0 hn0 r.1 r.2 xs (hq r.1 r.2 h') (hs r.1 r.2 h') hx with h | ⟨_, e2⟩
   . exact h.mono fun _ _ h => h.2.1
   . rw [zd4 g false r.1 r.2 xs e2]; exact hs r.1 r.2 h'
theorem Good.lay {V : Str -> Prop} {t : Tree} (h : Good V t) {g n0 : Nat} {xs : List Nat} (hg : g < 4294967296) (h0 : 0 < n0) (hn0 : n0 <= 65536) (hx : ∀ x ∈ xs, x < n0) : Good V (t.lay g false xs) /\ zar (t.lay g false xs) = 0 :=
 ⟨⟨h.tr.lay g false xs, (h.tf.laid g xs).1, h.tk.lay g false xs, z1m hg h0 hn0 h.tf.q0 h.sm hx, h.few⟩, (h.tf.laid g xs).2⟩
theorem zs7 {V V' : Str -> Prop} {t t0 : Tree} {rp0 : Value} {ds : List Nat} {n : Nat} (h : Good V t) (h0 : Good V' t0) (hd : ds.length = zar t) (hn : t.keys + t0.keys + 10 <= n) : ds.length <= (fr (zb2 [(t0, rp0, [])] t) n 2).length := by
 have h1 := z1c (zb2 [(t0, rp0, [])] t) n 2
 have h2 : (zb2 [(t0, rp0, [])] t).length <= zd3 t0 + (zd3 t - zar t) := by
  unfold zb2
  have a := zk8 t.cblks (([(t0, rp0, ([] : List Nat))].flatMap fun r => r.1.blks).foldl ins [])
  have b := zk8 ([(t0, rp0, ([] : List Nat))].flatMap fun r => r.1.blks) []
  have c : ([(t0, rp0, ([] : List Nat))].flatMap fun r => r.1.blks).length = zd3 t0 := by simp [Tree.blks_len]
  have d := t.cblks_len
  simp only [List.length_nil] at b
  omega
 have h3 := h.tf.nodes_le h.tr.tw h.few
 have h4 := h0.tf.nodes_le h0.tr.tw h0.few
 have h5 := t.cblks_len
 omega
set_option maxHeartbeats 1000000 in
theorem zz3 (x : Nat) (s : DbS) (w : World) (h : DbAt w x s) (hp : s.poi = false) (hw : s.writer = .pointer none) :
   Calls Tryz.prog 22 #[.pointer (some ⟨x, 0, none⟩), .bool true] w fun e w' => ∃ t, e = .returned (.tuple #[.pointer (some ⟨t, 0, none⟩), .nilIface]) /\ TxAt w' t ⟨x, s.root, s.keys, true, false, 0⟩ /\ DbAt w' x { s with writer := .pointer (some ⟨t, 0, none⟩) } /\ w.heap.size <= t /\ Only (fun y => y = x) w w' := by
 obtain ⟨dk, root, keys, writer, rd, poi⟩ := s
 simp only at hp hw
 subst hp
 subst hw
 have HL := zaa (zef h rfl)
 have HXL := zaa h.lt
 clear h
 go_enter_defers Tryz.func22, Tryz.ntmps22
 go_wp2_with (go_at_call 51; refine HL.out.mono ?_; rintro e w1 ⟨rfl, hb1, ho1, hs1⟩
              have c2 : w1.cell? ⟨x, 3, none⟩ = some root := zab hb1 3 rfl
              have c3 : w1.cell? ⟨x, 4, none⟩ = some (.int .i64 keys) := zab hb1 4 rfl
              have c5 : w1.cell? ⟨x, 5, none⟩ = some (.pointer none) := zab hb1 5 rfl
              have c7 : w1.cell? ⟨x, 7, none⟩ = some (.bool false) := zab hb1 7 rfl
              have c5' := fun o => zai o c5
              have f5 : w1.frozen? ⟨x, 5, none⟩ = false := hb1.frozen 5
              have f5' : ∀ cs T, (w1.alloc (.cells cs T)).frozen? ⟨x, 5, none⟩ = false := fun cs T => (hb1.alloc (.cells cs T)).frozen 5
              have hxne : ¬ x = w1.heap.size := by have := hb1.lt; omega
              have hxne' : ¬ w1.heap.size = x := fun e => hxne e.symm
              have HB1 := zaa hb1
              have HO1 := zaa ho1
              have HS1 := zaa hs1
              clear hb1 ho1 hs1)
 have hxl := HXL.out
 have hz1 := HS1.out
 have hN := Blk.new w1 94 #[.pointer (some ⟨x, 0, none⟩), root, .int .i64 keys, .bool true, .bool false, .int .i64 0]
 have hA := HB1.out.alloc (.cells #[.pointer (some ⟨x, 0, none⟩), root, .int .i64 keys, .bool true, .bool false, .int .i64 0] 94)
 have hb3 := hA.set_ 5 (.pointer (some ⟨w1.heap.size, 0, none⟩))
 have hT3 := hN.far (p := ⟨x, 5, none⟩) hxne' (.pointer (some ⟨w1.heap.size, 0, none⟩))
 have hsz : w1.heap.size = w.heap.size := hz1
 have ho3 : Only (fun y => y = x) w1 ((w1.alloc (.cells #[.pointer (some ⟨x, 0, none⟩), root, .int .i64 keys, .bool true, .bool false, .int .i64 0] 94)).setCell ⟨x, 5, none⟩ (.pointer (some ⟨w1.heap.size, 0, none⟩))) := Only.set2 ((Only.refl _ _).alloc _) 5 _
 refine leaves_cons (f := 52) (args := #[.pointer (some ⟨x, 0, none⟩)]) (by simp) (by simp [go_sem]) ?_
 refine (zcf .returning hb3 rfl).mono ?_
 rintro e u' w4 ⟨rfl, rfl, hb4, ho4, hs4⟩
 refine ⟨_, results_tmp2 rfl _ _ _, ?_⟩
 refine ⟨w1.heap.size, rfl, Blk.only hT3 ho4 (by omega), hb4, by omega, ?_⟩
 exact ((HO1.out.trans ho3).trans ho4)
end Go.Proofs.YtemondlgcmpbbaaGreatDoor
