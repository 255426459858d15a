/- Walks: Begin and Get of a store that is poisoned; a disk that is flushed. -/
import Derived.Test.YtemondlgcmpbbaaGreatDoorMP42
namespace Go.Proofs.YtemondlgcmpbbaaGreatDoor
open Go.RowKit
set_option maxRecDepth 100000
def zti : ByteArray := ⟨#[98, 101, 103, 105, 110]⟩
set_option maxHeartbeats 1000000 in
theorem zwv (x : Nat) (s : DbS) (w : World) (h : DbAt w x s) (hp : s.poi = true) :
   Calls Tryz.prog 22 #[.pointer (some ⟨x, 0, none⟩), .bool false] w fun e w' => ∃ f, e = .returned (.tuple #[.pointer none, zau f]) /\ zbj w' f zti 7 /\ Below w.heap.size w w' := by
 obtain ⟨dk, root, keys, writer, rd, poi⟩ := s
 simp only at hp
 subst hp
 have HL := zaa (zef h rfl)
 have HD := zaa h
 clear h
 go_enter_defers Tryz.func22, Tryz.ntmps22
 go_wp2_with (first
  | (go_at_call 51; go_loud (
     refine HL.out.mono ?_; rintro e w1 ⟨rfl, hb1, ho1, hs1⟩
     have c5 : w1.cell? ⟨x, 5, none⟩ = some writer := zab hb1 5 rfl
     have c6 : w1.cell? ⟨x, 6, none⟩ = some (.map (some rd)) := zab hb1 6 rfl
     have c7 : w1.cell? ⟨x, 7, none⟩ = some (.bool true) := zab hb1 7 rfl
     have HB1 := zaa hb1
     have HO1 := zaa ho1
     clear hb1 ho1 hs1))
  | (go_at_call 53; go_loud (
     refine (zem _ _ _).mono ?_; rintro e w2 ⟨rfl, hw2⟩
     have hb2 : Below w1.heap.size w1 w2 := by rw [hw2]; exact (Below.refl _ _).alloc (Nat.le_refl _) _
     have hF2 : zbj w2 w1.heap.size zti 7 := by rw [hw2]; exact Blk.new _ _ _
     unfold zau
     have HF := zaa hF2
     have HB2 := zaa hb2
     clear hw2 hb2 hF2)))
 have hD2 := HB1.out.below HB2.out HB1.out.lt
 have hne : w1.heap.size ≠ x := by have := HB1.out.lt; omega
 refine leaves_cons (f := 52) (args := #[.pointer (some ⟨x, 0, none⟩)]) (by simp) (by simp [go_sem]) ?_
 refine (zcf .returning hD2 rfl).mono ?_
 rintro e u' w4 ⟨rfl, rfl, hb4, ho4, hs4⟩
 exact ⟨_, results_tmp2 rfl _ _ _, w1.heap.size, rfl, Blk.only HF.out ho4 hne, ((HO1.out.below HB2.out).trans ho4).back HD.out hb4⟩
set_option maxHeartbeats 1000000 in
theorem ztj (t x c : Nat) (τ : TxS) (s : DbS) (k : Str) (w : World) (hT : TxAt w t τ) (hD : DbAt w x s) (hx : τ.db = x) (hk : k.size <= 9223372036854775807) (hm : zf9 s.poi τ.done false τ.write k = c) (hc : c ≠ 0) :
   Calls Tryz.prog 41 #[.pointer (some ⟨t, 0, none⟩), .string k] w fun e w' => ∃ f, e = .returned (.tuple #[.string ByteArray.empty, .bool false, zau f]) /\ zbj w' f opGet c /\ Below w.heap.size w w' := by
 have t0 : w.cell? ⟨t, 0, none⟩ = some (.pointer (some ⟨x, 0, none⟩)) := by rw [<- hx]; exact zab hT 0 rfl
 have htx : t ≠ x := Blk.ne_ hT hD (by decide)
 have HL := zaa (zef hD rfl)
 have HT := zaa hT
 have HD := zaa hD
 have HM0 := zaa hm
 have HC := zaa hc
 clear hT hD hm hc
 go_enter_defers Tryz.func41, Tryz.ntmps41
 go_wp2_with (first
  | (go_at_call 51; go_loud (
     refine HL.out.mono ?_; rintro e w1 ⟨rfl, hb1, ho1, hs1⟩
     have hT1 := HT.out.only ho1 htx
     have k0 : w1.cell? ⟨t, 0, none⟩ = some (.pointer (some ⟨x, 0, none⟩)) := by rw [<- hx]; exact zab hT1 0 rfl
     have HM := zaa (zib t x τ s 1 opGet k false w1.heap.size (w1.alloc (.cells #[.string k] 9)) (hT1.alloc _) (hb1.alloc _) hx (zab (Blk.new w1 9 #[.string k]) 0 rfl) hk)
     rw [HM0.out] at HM
     have HB1 := zaa hb1
     have HO1 := zaa ho1
     clear hT1 hb1 ho1 hs1))
  | (go_at_call 54; go_loud (
     unfold opGet at HM
     refine HM.out.mono ?_; rintro e w2 ⟨v, rfl, hb2, ha⟩
     obtain ⟨f, rfl, hf, hlf⟩ : ∃ f, v = zau f /\ zbj w2 f ⟨#[103, 101, 116]⟩ c /\ (w1.alloc (.cells #[.string k] 9)).heap.size <= f := by
      rcases ha with h | h
      . exact absurd h.1 HC.out
      . exact h.2
     unfold zau
     have HF := zaa hf
     have HLF := zaa hlf
     have HB2 := zaa hb2
     clear ha hf hlf hb2)))
 have hb12 : Below w1.heap.size w1 w2 := ((Below.refl _ _).alloc (Nat.le_refl _) _).trans (HB2.out.mono (by simp))
 have hD2 := HB1.out.below hb12 HB1.out.lt
 have hne : f ≠ x := by have := HLF.out; have := HB1.out.lt; simp at *; omega
 refine leaves_cons (f := 52) (args := #[.pointer (some ⟨x, 0, none⟩)]) (by simp) (by simp [go_sem]) ?_
 refine (zcf .returning hD2 rfl).mono ?_
 rintro e u' w4 ⟨rfl, rfl, hb4, ho4, hs4⟩
 exact ⟨.tuple #[.string ByteArray.empty, .bool false, .iface 128 (.pointer (some ⟨f, 0, none⟩))], by first | (simp [results, Tryz.results41, go_sem]; done) | (simp [results, Tryz.results41, go_sem]; rfl), f, rfl, Blk.only HF.out ho4 hne, ((HO1.out.below hb12).trans ho4).back HD.out hb4⟩
theorem zkk {n : Nat} : ∀ (cache : List (Nat × List UInt8)) (bytes : List UInt8) (i : Nat), bytes.length = n * 128 -> (∀ x ∈ cache, x.1 < n /\ x.2.length = 128) -> i < n -> dread (zap bytes cache) [] i = dread bytes cache i
 | [], _, _, _, _, _ => rfl
 | x :: l, bytes, i, hb, hx, hi => by
   obtain ⟨h1, h2⟩ := hx x (List.mem_cons_self ..)
   have hd := zft (x := x) hb h1 h2
   show dread (zap (zcp bytes x) l) [] i = _
   rw [zkk l (zcp bytes x) i hd (fun y hy => hx y (List.mem_cons_of_mem _ hy)) hi]
   unfold dread
   rw [List.foldl_cons]
   congr 1
   by_cases e : x.1 = i
   . rw [if_pos e]
     have := zcg hb h1 h2
     rw [zd1, e] at this
     rw [show (i, x.2) = x by rw [<- e]] at this
     exact this
   . rw [if_neg e]
     have := zbz hb h1 hi h2 (fun h => e h.symm)
     rw [zd1, zd1] at this
     exact this
theorem zyj {V : Str -> Prop} {N K b g base n : Nat} {cv : Value} {m : Nums} {bytes : List UInt8} {cache : List (Nat × List UInt8)} {w : World} {T T' : Tree} {hd hd' : Hd} {okb : Bool} (hdk : Dk w K b g base n cv m bytes cache) (hc : m.calm) (hn : 8 <= n /\ n <= 400) (hI : (okb = false /\ DInv (dread bytes cache) n hd T) \/ DInv (dread bytes cache) n hd' T') (hg : Good V T) (hg' : Good V T') (hgen : hd.gen <= 5 /\ hd'.gen <= 5) (hK : K + 200 < zbf) (hN : N <= w.heap.size) (hb : N <= b) (hgN : N <= g) :
   Calls Tryz.prog 38 #[.pointer (some ⟨b, 0, none⟩)] w fun e w' => ∃ x r T3 G, e = .returned (.tuple #[.pointer (some ⟨x, 0, none⟩), .nilIface]) /\ G <= 5 /\ StoreR N w' (K + 150) b n x G (.pointer none) T3 r [] /\ DInv (dread r.bytes []) n r.hd T3 /\ Good V T3 /\ ((okb = false /\ T3 = T) \/ T3 = T') /\ KpP N w w' := by
 have hfl : ∀ {hd : Hd} {T : Tree}, DInv (dread bytes cache) n hd T -> DInv (dread (zap bytes cache) []) n hd T := fun hI => by
  have e : ∀ i, i < n -> dread (zap bytes cache) [] i = dread bytes cache i := fun i hi => zkk cache bytes i hdk.len (fun x hx => ⟨Nat.lt_of_lt_of_le (hdk.ok x hx).1 hdk.cap, (hdk.ok x hx).2⟩) (Nat.lt_of_lt_of_le hi hdk.cap)
  exact hI.keep (fun i hi => by rw [e i (by omega)]) fun i _ hi _ => e i hi
 rcases hI with ⟨h0, hI⟩ | hI
 . refine (zh4 hdk hc hn hI hg hK hN hb hgN).mono ?_
   rintro e w' ⟨x, r, rfl, hs, hby, hh, hk⟩
   exact ⟨x, r, T, _, rfl, hgen.1, hs, by rw [hby, hh]; exact hfl hI, hg, .inl ⟨h0, rfl⟩, hk⟩
 . refine (zh4 hdk hc hn hI hg' hK hN hb hgN).mono ?_
   rintro e w' ⟨x, r, rfl, hs, hby, hh, hk⟩
   exact ⟨x, r, T', _, rfl, hgen.2, hs, by rw [hby, hh]; exact hfl hI, hg', .inr rfl, hk⟩
end Go.Proofs.YtemondlgcmpbbaaGreatDoor
