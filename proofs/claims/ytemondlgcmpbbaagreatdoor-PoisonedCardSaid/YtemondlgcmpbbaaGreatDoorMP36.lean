/- Fl Bd Fd Bb: merged. -/
import Derived.Test.YtemondlgcmpbbaaGreatDoorMP32
import Derived.Test.YtemondlgcmpbbaaGreatDoorMP06
import Derived.Test.YtemondlgcmpbbaaGreatDoorMP34
import Derived.Test.YtemondlgcmpbbaaGreatDoorMP35
import Derived.OwnWalk
import Derived.Test.YtemondlgcmpbbaaGreatDoorMP30
namespace Go.Proofs.YtemondlgcmpbbaaGreatDoor
open Go.RowKit
set_option maxRecDepth 100000
def VK (k : Nat) : Str -> Prop := fun s => s ∈ (List.range k).map zur \/ s = noKey
theorem VK.more {k k' : Nat} (hk : k <= k') : ∀ s, VK k s -> VK k' s := fun s h => by
 rcases h with h | h
 . obtain ⟨i, hi, rfl⟩ := List.mem_map.1 h
   exact .inl (List.mem_map.2 ⟨i, List.mem_range.2 (by have := List.mem_range.1 hi; omega), rfl⟩)
 . exact .inr h
theorem VK.wide {k i : Nat} (h : i < k) : VK k (zur i) := .inl (List.mem_map.2 ⟨i, List.mem_range.2 h, rfl⟩)
theorem Good.mono {V V' : Str -> Prop} {t : Tree} (h : Good V t) (hV : ∀ s, V s -> V' s) : Good V' t := ⟨h.tr, h.tf, h.tk.mono hV, h.sm, h.few⟩
theorem VK.keys {k : Nat} {t : Tree} (hw : TW t) (h : TK (VK k) t) : t.keys <= k := by
 have := zm5 (L := (List.range k).map zur) hw h
 simpa using this
theorem Good.dirty_le {V : Str -> Prop} {t : Tree} (h : Good V t) : zar t <= 133 := by
 have h1 := h.tf.nodes_le h.tr.tw h.few
 have h2 := t.cblks_len
 have := h.few
 omega
def z3l : Str := ⟨#[48, 49, 50, 51, 52, 53, 54, 55, 56, 57, 97, 98]⟩
theorem CInv.empty (rd : Nat -> List UInt8) (n G : Nat) : CInv rd n G ⟨none, 0⟩ := ⟨TN.empty, List.nodup_nil⟩
theorem zyd (rd : Nat -> List UInt8) (n G : Nat) : Clo (CInv rd n G) := ⟨(fun _ _ _ _ _ _ h => h.put _ _), (fun _ _ _ _ h => h.delete _)⟩
set_option maxHeartbeats 4000000 in
theorem zuz (n : Nat) (a : Int) (w : World) (hn : 100 <= n /\ n <= 400) (ha : I64 a) :
   Calls Tryz.prog 28 #[.int .i64 n, .int .i64 a] w fun e w' => ∃ b x v K T r, e = .returned (.tuple #[.pointer (some ⟨b, 0, none⟩), .pointer (some ⟨x, 0, none⟩), v]) /\ K <= 300 /\ StoreR w.heap.size w' K b n x 2 (.pointer none) T r [] /\ Good V21 T /\ zar T = 0 /\ HasF T /\ PRow w' v T.pairs /\ Below w.heap.size w w' /\ DInv (dread r.bytes []) n r.hd T := by
 have hB : 8 <= n /\ n <= 400 := by omega
 have hroom : (22 : Int) <= zgi n := by unfold zgi; rw [Int.tdiv_eq_ediv_of_nonneg (by omega)]; omega
 have hbn : zdc n = n := by unfold zdc; rw [if_neg (by omega)]; omega
 have HN := zaa (zrc n w.heap.size w (Nat.le_refl _))
 rw [hbn] at HN
 have hf : zfv n = true := (zhm n).2 hB
 have HPK := zaa (fun W => zg3 a 40 W ha (by omega) (by omega))
 have hpl := zfj a 40 (by omega)
 obtain ⟨p, hp⟩ : ∃ p, p = zdl a 40 := ⟨_, rfl⟩
 rw [<- hp] at HPK hpl
 have HPE := zaa hp
 have hp3 : IntKind.i64.wrap (3 + (p : Int)) = ((3 + p : Nat) : Int) := by rw [IntKind.wrap_i64]; omega
 have HHB := zaa hB
 have HHN := zaa hn
 have HRM := zaa hroom
 have HFT := zaa hf
 have HA := zaa ha
 have HPL := zaa hpl
 clear hbn hB hn hroom hf hp ha hpl
 go_enter Tryz.func28, Tryz.ntmps28
 go_wp2_with (first
  | (go_at_call 49; go_loud (
     refine HN.out.mono ?_; rintro e w1 ⟨b, g, rfl, hd1, hb1, hg1, hB1⟩
     have HF := zaa (zru _ _ _ _ _ _ _ _ _ _ hd1 Nums.new_calm (by decide) HFT.out)
     have HD1 := zaa hd1
     have HB1 := zaa hB1
     have HBG := zaa (And.intro hb1 hg1)
     clear hd1 hb1 hg1 hB1))
  | (go_at_call 50; go_loud (
     refine HF.out.mono ?_; rintro e w2 ⟨rfl, hd2, ho2⟩
     obtain ⟨hdd, tl, hh, hz0, hHz⟩ := zox (bytes := List.replicate (n * 128) 0) (n := n) (G := 0) (by simp) HHB.out.1 (zyz _ _) (by decide)
     have HO := zaa (zme _ _ _ _ _ _ _ _ _ _ hd2 (((zbg Nums.new_calm 2).tick.wrote).tick) (by decide) HFT.out hdd tl hh hz0)
     have HHD := zaa (show hdd.slot < 2 /\ hdd.gen <= 1 from ⟨(zcr _ 2 hdd (zb6 _ hdd (by rw [hh]; simp))).1, (hHz.heads hdd (by rw [hh]; simp)).2⟩)
     have HC2 := zaa (((zbg Nums.new_calm 2).tick.wrote).tick)
     have HO2 := zaa ho2
     have HHS := zaa hh
     clear hd2 ho2 hh hHz))
  | (go_at_call 38; go_loud (
     refine HO.out.mono ?_; rintro e w3 ⟨x, dk, rd, rfl, hdb, hrd, hdk, hx, hdkl, hrdl, hd3, ho3⟩
     have hs1 := HB1.out.size
     have hs2 := HO2.out.size
     have hw2 : w.heap.size <= w2.heap.size := Nat.le_trans hs1 hs2
     obtain ⟨m3, hm3, bytes3, hh3, hd3⟩ : ∃ m3 : Nums, m3.calm /\ ∃ bytes3, (∃ tl, zba (dread bytes3 []) = hdd :: tl) /\ Dk w3 (0 + 5 + 3) b g w.heap.size n (.slice none 0 0) m3 bytes3 [] := ⟨_, zbg HC2.out 3, _, ⟨_, HHS.out⟩, hd3⟩
     have HH3 := zaa hh3
     have hst : StoreR w.heap.size w3 8 b n x 1 (.pointer none) ⟨none, 0⟩ ⟨g, w.heap.size, m3, bytes3, dk, rd, hdd, .pointer none⟩ [] := Store.toR ⟨hd3, hm3, hdk, HHD.out.1, HHD.out.2, hdb, hrd, .inl ⟨rfl, rfl, rfl⟩, HBG.out.1, HBG.out.2, Nat.le_trans hw2 hdkl, Nat.le_trans hw2 hx, Nat.le_trans hw2 hrdl⟩
     have HWR := zaa (zg4 a (3 + p) HA.out (by have := HPL.out; omega) hst Good.empty HRM.out)
     have HB3 := zaa (show Below w.heap.size w w3 from (HB1.out.trans ((HO2.out.trans ho3).to_below hs1 (fun y e => by rcases e with rfl | rfl; exact HBG.out.1; exact HBG.out.2))))
     clear hst hdb hrd hdk hx hdkl hrdl hd3 ho3 hs1 hs2 hm3 hw2 hh3))
  | (go_at_call 18; go_loud (refine (HPK.out _).mono ?_; rintro e w' ⟨rfl, rfl⟩))
  | (go_at_call 29; go_loud (
     refine HWR.out.mono ?_; rintro e w4 ⟨t, v4, T2, rp2, ds2, st2, rfl, hs4, ht4, hg4, -, hk4, hj4⟩
     have HJ4 := zaa (hj4 _ (zyd (dread bytes3 []) n hdd.gen) (CInv.empty _ _ _))
     have HP4 := zaa (zwm zf6 zqt hs4 ht4 hg4.tr hg4.pairs zhn zje (by have := HPL.out; omega) (.inr (by have := hg4.keys21; have := HRM.out; omega)))
     unfold zf6 zqt at HP4
     have HG4 := zaa hg4
     have HK4 := zaa hk4
     clear hs4 ht4 hg4 hk4 hj4))
  | (go_at_call 24; go_loud (
     refine HP4.out.mono ?_; rintro e w5 ⟨rfl, hs5, ⟨rp5, ds5, ht5⟩, hk5⟩
     obtain ⟨T5, ht5, hg5, hne5, hj5⟩ : ∃ T5, Trans w.heap.size w5 t x (3 + p + 1) T5 rp5 ds5 (st2 + 1) /\ Good V21 T5 /\ HasF T5 /\ CInv (dread bytes3 []) n hdd.gen T5 := ⟨_, ht5, (HG4.out.put21 V21.first zhn zje).1, HasF.first HG4.out.tr.tw zje, HJ4.out.put _ _⟩
     have HJ5 := zaa hj5
     have HAL := zaa (zlf t x _ _ T5 ds5 w5 ht5.tx hs5.db rfl rfl rfl ht5.tree hg5.tr hg5.pairs hg5.key8)
     have HS5 := zaa hs5
     have HT5 := zaa ht5
     have HG5 := zaa hg5
     have HK5 := zaa hk5
     have HNE := zaa hne5
     clear hs5 ht5 hg5 hk5 hne5 hj5))
  | (go_at_call 32; go_loud (
     refine HAL.out.mono ?_; rintro e w6 ⟨v6, rfl, hrow, hb6⟩
     obtain ⟨A6, c6, rfl⟩ := hrow.form
     have hl0 : ¬ (T5.pairs.length : Int) = 0 := by have := HNE.out.ne; have := mt List.length_eq_zero_iff.1 this; omega
     have hl1 : ((T5.pairs.length : Int) == 0) = false := by simpa using hl0
     have HC := zaa (zuy (HS5.out.below hb6) (HT5.out.below hb6) HG5.out (Good.empty (V := V21)) HHB.out (by decide) (by decide) (by have := HG5.out.keys21; have := HHN.out.1; show T5.keys + 0 + 10 <= n; omega) (by have := HG5.out.dirty_le; omega) HH3.out HJ5.out)
     have HROW := zaa hrow
     have HB6 := zaa hb6
     clear hrow hb6))
  | (go_at_call 26; go_loud (
     refine HC.out.mono ?_; rintro e w7 ⟨rfl, ⟨T', r', hs7, hg7, hd7, hp7, -, hdi7⟩, hk7⟩
     have HDI := zaa hdi7
     have HNW := zaa (zlg hs7 (by decide) hg7.tr hg7.pairs hg7.key8)
     have HG7 := zaa hg7
     have HD7 := zaa hd7
     have HP7 := zaa hp7
     have HK7 := zaa hk7
     clear hs7 hg7 hd7 hp7 hk7 hdi7))
  | (go_at_call 31; go_loud (
     refine HNW.out.mono ?_; rintro e w8 ⟨v8, rfl, hrow8, hs8, -, hk8⟩
     have HSM := zaa (zg5 _ v8 T5.pairs T'.pairs w8 ((HROW.out.kp HK7.out).kp hk8) hrow8 (by have := HG5.out.pairs; omega) (by have := HG7.out.pairs; omega))
     rw [show decide (T5.pairs = T'.pairs) = true by simp [HP7.out]] at HSM
     have HS8 := zaa hs8
     have HK8 := zaa hk8
     clear hrow8 hs8 hk8))
  | (go_at_call 33; go_loud (refine HSM.out.mono ?_; rintro e w9 ⟨rfl, hb9⟩; have HB9 := zaa hb9; clear hb9)))
 refine bodyPost_ret (results_tmp3 rfl _ _ _) rfl ?_
 have hk9 : KpP w.heap.size w8 w9 := KpP.of_below HB9.out HS8.out.size
 refine ⟨b, x, _, 8 + 200, T', r', rfl, by omega, HS8.out.below HB9.out, HG7.out, HD7.out, HNE.out.same HP7.out, ?_, ?_, HDI.out⟩
 . rw [HP7.out]
   exact ((HROW.out.kp HK7.out).kp HK8.out).kp hk9
 . exact ((((((HB3.out.trans HK4.out.1).trans HK5.out.1).trans (HB6.out.mono HS5.out.size)).trans HK7.out.1).trans HK8.out.1).trans hk9.1)
theorem Good.nodes {V : Str -> Prop} {T : Tree} (hg : Good V T) : zd3 T <= 133 := by
 have := hg.tf.nodes_le hg.tr.tw hg.few
 have := hg.few
 omega
theorem KpP.of_bg {N b g K base n : Nat} {cv : Value} {m : Nums} {bytes : List UInt8} {cache : List (Nat × List UInt8)} {w w' : World} (h : Dk w K b g base n cv m bytes cache) (hN : N <= w.heap.size) (hb : N <= b) (hg : N <= g) (ho : Only (fun x => x = b \/ x = g) w w') : KpP N w w' :=
 KpP.of_only ho hN (fun y e => by rcases e with rfl | rfl; exact hb; exact hg) (fun X hX y cs hy e => by
  rcases e with e | e
  . exact Blk.ne_ hy h.at_ (hX.ne (by decide) (by decide)) e
  . exact Blk.ne_ hy h.blk (hX.ne (by decide) (by decide)) e)
theorem zh4 {V : Str -> Prop} {N K b g base n : Nat} {cv : Value} {m : Nums} {bytes : List UInt8} {cache : List (Nat × List UInt8)} {hd : Hd} {T : Tree} {w : World} (h : Dk w K b g base n cv m bytes cache) (hc : m.calm) (hn : 8 <= n /\ n <= 400) (hD : DInv (dread bytes cache) n hd T) (hg : Good V T) (hK : K + 200 < zbf) (hN : N <= w.heap.size) (hb : N <= b) (hgN : N <= g) :
   Calls Tryz.prog 38 #[.pointer (some ⟨b, 0, none⟩)] w fun e w' => ∃ x r, e = .returned (.tuple #[.pointer (some ⟨x, 0, none⟩), .nilIface]) /\ StoreR N w' (K + 150) b n x hd.gen (.pointer none) T r [] /\ r.bytes = zap bytes cache /\ r.hd = hd /\ KpP N w w' := by
 obtain ⟨tl, hh⟩ := hD.heads
 obtain ⟨hsl, hgen, _⟩ := zcr _ 2 hd (zb6 _ hd (by rw [hh]; exact List.mem_cons_self ..))
 have hf : zfv n = true := (zhm n).2 hn
 rcases hD.root with ⟨hr, hz⟩ | ⟨ht, t, hr, hrb, hrg, hz⟩
 . refine (zme K b g base n cv m bytes cache w h hc (by omega) hf hd tl hh hz).mono ?_
   rintro e w' ⟨x, dk, rd, rfl, hdb, hrd, hdk, hx, hdkl, hrdl, hd', ho⟩
   have hk0 : T.keys = 0 := hg.tr.tw.none_ hr
   refine ⟨x, ⟨g, base, _, _, dk, rd, hd, .pointer none⟩, rfl, ⟨hd'.more (by omega), zbg hc 3, hdk, hsl, Nat.le_refl _, ?_, hrd, .inl ⟨hr, rfl, rfl⟩, hb, hgN, Nat.le_trans hN hdkl, Nat.le_trans hN hx, Nat.le_trans hN hrdl, (fun _ h => by cases h), List.nodup_nil⟩, rfl, rfl, KpP.of_bg h hN hb hgN ho⟩
   rw [hk0]
   exact hdb
 . have hnod : nodes ht t <= 133 := by have := hg.nodes; unfold zd3 at this; rw [hr] at this; exact this
   have hpl : (Tr.pairs ht t).length <= 150 := by have := hg.pairs; unfold Tree.pairs at this; rw [hr] at this; exact this
   have hlow := hg.tf.low hg.few hr
   have hon := hD.on ht t hr
   have hnd : (blks ht t).Nodup := by have := hD.nd; unfold Tree.blks at this; rw [hr] at this; exact this
   refine (zwi h hf hd ht t (zup K b g base n m bytes cache cv w h hc hn.1 hn.2 hd tl hh hz ht t hrb hrg (hg.tr.tw.some_ ht t hr) (hon.mono fun _ _ hq => hq.toLQ) hnd (by omega) (zte hon) (by omega) (by omega))).mono ?_
   rintro e w' ⟨x, dk, rd, bt, m', rfl, hdb, hfr, hcm, hrd, hdk, hx, hdkl, hrdl, hd', ho⟩
   have hk0 : T.keys = (Tr.pairs ht t).length := by have := hg.tr.tw.keys_; rw [this]; unfold Tree.pairs; rw [hr]
   refine ⟨x, ⟨g, base, m', _, dk, rd, hd, P bt⟩, rfl, ⟨hd'.more (by omega), hcm, hdk, hsl, Nat.le_refl _, ?_, hrd, .inr ⟨ht, t, bt, hr, rfl, hfr.more fun z hz => hz.2⟩, hb, hgN, Nat.le_trans hN hdkl, Nat.le_trans hN hx, Nat.le_trans hN hrdl, (fun _ h => by cases h), List.nodup_nil⟩, rfl, rfl, KpP.of_bg h hN hb hgN ho⟩
   rw [hk0]
   exact hdb
set_option maxHeartbeats 1000000 in
theorem zoc {V : Str -> Prop} {N K b g base n : Nat} {cv : Value} {m : Nums} {bytes : List UInt8} {cache : List (Nat × List UInt8)} {hd : Hd} {T : Tree} {w : World} (h : Dk w K b g base n cv m bytes cache) (hc : m.calm) (hn : 8 <= n /\ n <= 400) (hD : DInv (dread bytes cache) n hd T) (hg : Good V T) (h8 : ∀ e ∈ T.pairs, e.1.size <= 8) (hK : K + 200 < zbf) (hN : N <= w.heap.size) (hb : N <= b) (hgN : N <= g) :
   Calls Tryz.prog 36 #[.pointer (some ⟨b, 0, none⟩)] w fun e w' => ∃ v x r, e = .returned (.tuple #[v, .bool true]) /\ PRow w' v T.pairs /\ StoreR N w' (K + 150) b n x hd.gen (.pointer none) T r [] /\ r.bytes = zap bytes cache /\ KpP N w w' := by
 have HO := zaa (zh4 h hc hn hD hg hK hN hb hgN)
 have HG := zaa hg
 have H8 := zaa h8
 clear h hc hD hg h8
 go_enter Tryz.func36, Tryz.ntmps36
 go_wp2_with (first
  | (go_at_call 38; go_loud (
     refine HO.out.mono ?_; rintro e w1 ⟨x, r, rfl, hs1, hby, -, hk1⟩
     have HNW := zaa (zlg hs1 (by decide) HG.out.tr HG.out.pairs H8.out)
     have HBY := zaa hby
     have HK1 := zaa hk1
     clear hs1 hk1 hby))
  | (go_at_call 31; go_loud (
     refine HNW.out.mono ?_; rintro e w2 ⟨v, rfl, hrow, hs2, -, hk2⟩
     have HROW := zaa hrow
     have HS2 := zaa hs2
     have HK2 := zaa hk2
     clear hrow hs2 hk2)))
 go_ret2
 exact ⟨v, x, r, rfl, HROW.out, HS2.out, HBY.out, HK1.out.trans HK2.out⟩
end Go.Proofs.YtemondlgcmpbbaaGreatDoor
