/- Walks: shadowkeep's all, now. -/
import Derived.Test.YtemondlgcmpbbaaGreatDoorMP32
import Derived.RegionTactic
import Derived.BigRegion
namespace Go.Proofs.YtemondlgcmpbbaaGreatDoor
open Go.RowKit
set_option maxRecDepth 100000
def PRow (w : World) (v : Value) (l : List (Str × Str)) : Prop := ∃ base, w.ownsRow base 68 2 v l.length (zbw l)
theorem PRow.keep {w w' : World} {v : Value} {l : List (Str × Str)} (h : PRow w v l) (hk : ∀ y cs, Blk w y 68 cs -> Blk w' y 68 cs) : PRow w' v l := by
 obtain ⟨base, h1, h2⟩ := h
 refine ⟨base, h1, ?_⟩
 rcases h2 with h0 | ⟨g', cap, cur, hv, hb, hgk, hrd⟩
 . exact .inl h0
 . exact .inr ⟨g', cap, cur, hv, hb, hk _ _ hgk, hrd⟩
theorem PRow.kp {N : Nat} {w w' : World} {v : Value} {l : List (Str × Str)} (h : PRow w v l) (hk : KpP N w w') : PRow w' v l := h.keep (hk.2 _ (.inl rfl))
theorem PRow.form {w : World} {v : Value} {l : List (Str × Str)} (h : PRow w v l) : ∃ A c, v = .slice A l.length c := by
 obtain ⟨base, h⟩ := h
 obtain ⟨A, c, e, _⟩ := zan h
 exact ⟨A, c, e⟩
theorem PRow.reads {w : World} {A : Option Addr} {c : Nat} {l : List (Str × Str)} (h : PRow w (.slice A l.length c) l) : Reads w w.heap.size 2 A l.length (zbw l) := by
 obtain ⟨base, h⟩ := h
 exact Reads.of_own h
def zus : Str := ⟨#[255, 255, 255, 255, 255, 255, 255, 255, 255]⟩
theorem zs8 : ∀ (l m : List UInt8), (∀ x ∈ m, x = 255) -> l.length < m.length -> Op.bytesLess l m = true
 | _, [], _, h => by simp at h
 | [], _ :: _, _, _ => rfl
 | a :: l, b :: m, hm, h => by
   have hb : b = 255 := hm b (by simp)
   subst hb
   simp only [Op.bytesLess, Bool.or_eq_true, Bool.and_eq_true, decide_eq_true_eq, beq_iff_eq]
   by_cases ha : a = 255
   . exact .inr ⟨ha, zs8 l m (fun x hx => hm x (by simp [hx])) (by simpa using h)⟩
   . refine .inl (UInt8.lt_iff_toNat_lt.2 ?_)
     have h1 := a.toNat_lt
     have h2 : a.toNat ≠ 255 := fun e => ha (UInt8.toNat_inj.1 e)
     show a.toNat < 255
     omega
theorem zx8 {k : Str} (hk : k.size <= 8) : slt k zus = true := by
 unfold slt
 refine zs8 _ _ ?_ ?_
 . rw [ByteArray.toList_eq]; show ∀ x ∈ [255, 255, 255, 255, 255, 255, 255, 255, 255], x = (255 : UInt8); simp
 . rw [ByteArray.toList_eq, ByteArray.toList_eq]
   show k.data.toList.length < 9
   have : k.data.toList.length = k.size := Array.length_toList
   omega
theorem zr3 (T : Tree) : zby T ByteArray.empty = T.pairs := by
 have h : ∀ l : List (Str × Str), place ByteArray.empty l = 0 := fun l => by
  unfold place
  cases l with
  | nil => rfl
  | cons a l => rw [List.takeWhile_cons_of_neg (by rw [zav]; simp)]; rfl
 unfold zby
 rw [h, List.drop_zero]
theorem zlf (t x : Nat) (τ : TxS) (s : DbS) (T : Tree) (ds : List Nat) (w : World) (hT : TxAt w t τ) (hD : DbAt w x s) (hx : τ.db = x) (hk : τ.keys = T.keys) (hok : mayC s.poi τ.done false τ.write = 0)
   (hV : TreeV (fun z => z < w.heap.size) w T τ.root ds) (hR : TR T) (hp : T.pairs.length <= 150) (h8 : ∀ e ∈ T.pairs, e.1.size <= 8) :
   Calls Tryz.prog 32 #[.pointer (some ⟨t, 0, none⟩)] w fun e w' => ∃ v, e = .returned (.tuple #[v, .bool true]) /\ PRow w' v T.pairs /\ Below w.heap.size w w' := by
 have HS := zaa (zx5 t x τ s T ds ByteArray.empty zus 1048576 (by decide) w hT hD hx hk hok hV hR hp fun e he => zx8 (h8 e he))
 rw [zr3] at HS
 unfold zus at HS
 clear hT hD hV hR hp h8
 go_enter Tryz.func32, Tryz.ntmps32
 go_wp2_with (go_at_call 64; go_loud (
  refine HS.out.mono ?_; rintro e w1 ⟨v, rfl, hrow, hb⟩
  have HROW := zaa hrow
  have HB := zaa hb
  clear hrow hb))
 go_region
 go_wp2
 go_ret2
 exact ⟨_, rfl, ⟨_, HROW.out⟩, HB.out.drew⟩
theorem zlg {N K b n x G : Nat} {wr : Value} {T : Tree} {r : SR} {rs : List Rdr} {w : World} (h : StoreR N w K b n x G wr T r rs) (h4 : rs.length < 4) (hR : TR T) (hp : T.pairs.length <= 150) (h8 : ∀ e ∈ T.pairs, e.1.size <= 8) :
   Calls Tryz.prog 31 #[.pointer (some ⟨x, 0, none⟩)] w fun e w' => ∃ v, e = .returned (.tuple #[v, .bool true]) /\ PRow w' v T.pairs /\ StoreR N w' K b n x G wr T r rs /\ (∀ t' S T1 rp ds st, Trans N w t' x S T1 rp ds st -> Trans N w' t' x S T1 rp ds st) /\ KpP N w w' := by
 have HBG := zaa (zwo h h4)
 clear h
 go_enter Tryz.func31, Tryz.ntmps31
 go_wp2_with (first
  | (go_at_call 22; go_loud (
     refine HBG.out.mono ?_; rintro e w1 ⟨t, rfl, hs1, -, ht1, hk1⟩
     obtain ⟨q1, q2, q3⟩ := hs1.rds ⟨t, T, r.rp⟩ (by simp)
     dsimp only at q1 q2 q3
     have HA := zaa (zlf t x _ _ T [] w1 q1 hs1.db rfl rfl rfl q2 hR hp h8)
     have HS1 := zaa hs1
     have HT1 := zaa ht1
     have HK1 := zaa hk1
     clear hs1 ht1 hk1 q1 q2 q3))
  | (go_at_call 32; go_loud (
     refine HA.out.mono ?_; rintro e w2 ⟨v, rfl, hrow, hb2⟩
     have hab := zwp (HS1.out.below hb2)
     dsimp only at hab
     have HAB := zaa hab
     clear hab
     have HROW := zaa hrow
     have HB2 := zaa hb2
     clear hrow hb2))
  | (go_at_call 27; go_loud (
     refine HAB.out.mono ?_; rintro e w3 ⟨rfl, hs3, -, ht3, hk3⟩
     have HS3 := zaa hs3
     have HT3 := zaa ht3
     have HK3 := zaa hk3
     clear hs3 ht3 hk3)))
 go_region
 go_wp2
 go_ret2
 have hbd : Below w3.heap.size w3 w3.drew := (Below.refl _ _).drew
 have hk4 : KpP N w3 w3.drew := KpP.of_below hbd HS3.out.size
 exact ⟨_, rfl, (HROW.out.kp HK3.out).kp hk4, HS3.out.below hbd, fun t' S T1 rp ds st hh => (HT3.out _ _ _ _ _ _ ((HT1.out _ _ _ _ _ _ hh).below HB2.out)).below hbd, ((HK1.out.trans (KpP.of_below HB2.out HS1.out.size)).trans HK3.out).trans hk4⟩
end Go.Proofs.YtemondlgcmpbbaaGreatDoor
