/- Walks: shadowkeep.Either. -/
import Derived.Test.YtemondlgcmpbbaaGreatDoorMP40
import Derived.Test.YtemondlgcmpbbaaGreatDoorMP41
import Derived.Test.YtemondlgcmpbbaaGreatDoorMP36
namespace Go.Proofs.YtemondlgcmpbbaaGreatDoor
open Go.RowKit
set_option maxRecDepth 100000
theorem ztg {N base m c : Nat} {w w' : World} {A : Option Addr} {xs : List Int} (h : w.ownsRow base 3 1 (.slice A m c) m (zdg xs)) (hk : KpP N w w') : w'.ownsRow base 3 1 (.slice A m c) m (zdg xs) :=
 ⟨h.1, h.2.imp id fun ⟨g, cap, cur, e1, e2, e3, e4⟩ => ⟨g, cap, cur, e1, e2, hk.2 _ (.inr rfl) _ _ e3, e4⟩⟩
theorem z0e {base m c : Nat} {w : World} {A : Option Addr} {xs : List Int} (h : w.ownsRow base 3 1 (.slice A m c) m (zdg xs)) (hx : ∀ z ∈ xs, I64 z) : IntsAt w A m c xs := by
 have hl : xs.length = m := by have := h.1; rw [zor] at this; omega
 obtain ⟨A', c', e, h1, h2, hrow, hno⟩ := zan h
 injection e with e1 _ e3
 subst e1 e3
 refine ⟨hl, h1, h2, hx, fun h0 => ?_⟩
 cases A with
 | none => have := (hno rfl).1; omega
 | some a =>
   obtain ⟨_, hlt, e4, cur, hb, _, ht⟩ := hrow a.block rfl
   refine ⟨a.block, 0, e4, hlt, fun j z hz => ?_⟩
   refine zab hb (0 + j) ?_
   have hj : j < m := by rw [<- hl]; exact (List.getElem?_eq_some_iff.1 hz).1
   have h3 : (zdg xs)[j]? = some (.int .i64 z) := by unfold zdg; rw [List.getElem?_map, hz]; rfl
   rw [<- ht, List.getElem?_take, if_pos (by omega)] at h3
   rw [Nat.zero_add, <- Array.getElem?_toList]
   exact h3
theorem zth {z : Int} (h : I64 z) : I64 (Int.tdiv z 64) := by
 unfold I64 at *
 by_cases h0 : 0 <= z
 . rw [Int.tdiv_eq_ediv_of_nonneg h0]; omega
 . have h2 : Int.tdiv z 64 = -(Int.tdiv (-z) 64) := by rw [Int.neg_tdiv, Int.neg_neg]
   rw [h2, Int.tdiv_eq_ediv_of_nonneg (by omega)]
   omega
theorem z0f {z : Int} (h : I64 z) : wrap64 (Int.tdiv z 64) = Int.tdiv z 64 := by
 have h2 := zth h
 unfold I64 at h2
 unfold wrap64
 omega
theorem zwu {c : Int} (hc : I64 c) (W : World) : Calls Tryz.prog 18 #[.int .i64 c, .int .i64 25] W fun e w' => e = .returned (.int .i64 (zdl c 25)) /\ W = w' := zg3 c 25 W hc (by omega) (by omega)
theorem z1z {m : Nums} {K : Nat} {q : Int} (h : m.sm K) : ({ m with off := m.calls + q } : Nums).sm K := h
theorem z3d {V : Str -> Prop} {N K b g base n : Nat} {cv : Value} {m : Nums} {bytes : List UInt8} {w : World} {T T' : Tree} {hd hd' : Hd} {okb : Bool} (hdk : Dk w K b g base n cv m bytes []) (hc : m.calm) (hn : 8 <= n /\ n <= 400) (hI : (okb = false /\ DInv (dread bytes []) n hd T) \/ DInv (dread bytes []) n hd' T') (hg : Good V T) (hg' : Good V T') (hgen : hd.gen <= 5 /\ hd'.gen <= 5) (hK : K + 200 < zbf) (hN : N <= w.heap.size) (hb : N <= b) (hgN : N <= g) :
   Calls Tryz.prog 38 #[.pointer (some ⟨b, 0, none⟩)] w fun e w' => ∃ x r T3 G, e = .returned (.tuple #[.pointer (some ⟨x, 0, none⟩), .nilIface]) /\ G <= 5 /\ StoreR N w' (K + 150) b n x G (.pointer none) T3 r [] /\ DInv (dread r.bytes []) n r.hd T3 /\ Good V T3 /\ ((okb = false /\ T3 = T) \/ T3 = T') /\ KpP N w w' := by
 rcases hI with ⟨h0, hI⟩ | hI
 . refine (zh4 hdk hc hn hI hg hK hN hb hgN).mono ?_
   rintro e w' ⟨x, r, rfl, hs, hby, hh, hk⟩
   exact ⟨x, r, T, _, rfl, hgen.1, hs, by rw [hby, hh]; exact hI, hg, .inl ⟨h0, rfl⟩, hk⟩
 . refine (zh4 hdk hc hn hI hg' hK hN hb hgN).mono ?_
   rintro e w' ⟨x, r, rfl, hs, hby, hh, hk⟩
   exact ⟨x, r, T', _, rfl, hgen.2, hs, by rw [hby, hh]; exact hI, hg', .inr rfl, hk⟩
theorem zr8 {V : Str -> Prop} {N K b g base n : Nat} {cv : Value} {m : Nums} {bytes : List UInt8} {w : World} {T T' : Tree} {hd hd' : Hd} {okb : Bool} (hdk : Dk w K b g base n cv m bytes []) (hc : m.calm) (hn : 8 <= n /\ n <= 400) (hI : (okb = false /\ DInv (dread bytes []) n hd T) \/ DInv (dread bytes []) n hd' T') (hg : Good V T) (hg' : Good V T') (h8 : ∀ e ∈ T.pairs, e.1.size <= 8) (h8' : ∀ e ∈ T'.pairs, e.1.size <= 8) (hK : K + 200 < zbf) (hN : N <= w.heap.size) (hb : N <= b) (hgN : N <= g) :
   Calls Tryz.prog 36 #[.pointer (some ⟨b, 0, none⟩)] w fun e w' => ∃ v T3, e = .returned (.tuple #[v, .bool true]) /\ PRow w' v T3.pairs /\ ((okb = false /\ T3 = T) \/ T3 = T') /\ KpP N w w' := by
 rcases hI with ⟨h0, hI⟩ | hI
 . refine (zoc hdk hc hn hI hg h8 hK hN hb hgN).mono ?_
   rintro e w' ⟨v, x, r, rfl, hrow, hs, -, hk⟩
   exact ⟨v, T, rfl, hrow, .inl ⟨h0, rfl⟩, hk⟩
 . refine (zoc hdk hc hn hI hg' h8' hK hN hb hgN).mono ?_
   rintro e w' ⟨v, x, r, rfl, hrow, hs, -, hk⟩
   exact ⟨v, T', rfl, hrow, .inr rfl, hk⟩
end Go.Proofs.YtemondlgcmpbbaaGreatDoor
