/- Walks: end, Abort. -/
import Derived.Test.YtemondlgcmpbbaaGreatDoorSe
namespace Go.Proofs.YtemondlgcmpbbaaGreatDoor
open Go.RowKit

/-- The store when one of its transactions is over. -/
def DbS.ended (s : DbS) (wr : Bool) : DbS := { s with writer := if wr then .pointer none else s.writer }
def TxS.over (τ : TxS) : TxS := { τ with done := true }

theorem txb_only {w W : World} {y : Nat} {ks : List Nat} (h : ∀ k ∈ ks, TxB w k) (ho : Only (· = y) w W) (hy : TxB W y ∨ ¬ TxB w y) : ∀ k ∈ ks, TxB W k := by
  intro k hk
  obtain ⟨cs, hb⟩ := h k hk
  by_cases e : k = y
  · subst e
    rcases hy with hy | hy
    · exact hy
    · exact absurd ⟨cs, hb⟩ hy
  · exact ⟨cs, hb.only ho e⟩
theorem not_txb {w : World} {y : Nat} {T : TypeId} {cs : Array Value} (h : Blk w y T cs) (hT : 94 ≠ T) : ¬ TxB w y := fun ⟨_, hb⟩ => Blk.ne_ hb h hT rfl

set_option maxRecDepth 100000 in
set_option maxHeartbeats 1000000 in
theorem end_any (t x : Nat) (τ : TxS) (s : DbS) (l : Int) (ks : List Nat) (w : World) (hT : TxAt w t τ) (hD : Blk w x 91 (DbCells s l)) (hx : τ.db = x) (hr : RdAt w s.rd ks) (hk : ∀ k ∈ ks, TxB w k) :
    Calls Tryz.prog 59 #[.pointer (some ⟨t, 0, none⟩)] w fun e w' => e = .returned (.tuple #[]) ∧ TxAt w' t τ.over ∧ Blk w' x 91 (DbCells (s.ended τ.write) l) ∧ RdAt w' s.rd (ks.erase t) ∧ Only (fun y => y = t ∨ y = x ∨ y = s.rd) w w' := by
  obtain ⟨db, root, keys, write, done, stamp⟩ := τ
  obtain ⟨dk, root', keys', writer, rd, poi⟩ := s
  subst hx
  simp only at hr
  have htx : t ≠ db := Blk.ne_ hT hD (by decide)
  have hrt : rd ≠ t := hr.ne_blk hT
  have hrx : rd ≠ db := hr.ne_blk hD
  have t0 : w.cell? ⟨t, 0, none⟩ = some (.pointer (some ⟨db, 0, none⟩)) := cellOf hT 0 rfl
  have t3 : w.cell? ⟨t, 3, none⟩ = some (.bool write) := cellOf hT 3 rfl
  have t4 : w.cell? ⟨t, 4, none⟩ = some (.bool done) := cellOf hT 4 rfl
  have z4 : w.frozen? ⟨t, 4, none⟩ = false := hT.frozen 4
  have d5 : w.cell? ⟨db, 5, none⟩ = some writer := cellOf hD 5 rfl
  have d6 : w.cell? ⟨db, 6, none⟩ = some (.map (some rd)) := cellOf hD 6 rfl
  have z5 : w.frozen? ⟨db, 5, none⟩ = false := hD.frozen 5
  cases write with
  | false =>
    obtain ⟨W, hW⟩ : ∃ W, W = w.setCell ⟨t, 4, none⟩ (.bool true) := ⟨_, rfl⟩
    have hoW : Only (· = t) w W := by rw [hW]; exact Only.set1 _ _ _ _
    have hTW : TxAt W t ⟨db, root, keys, false, true, stamp⟩ := by rw [hW]; exact Blk.set_ hT 4 _
    obtain ⟨w3, hrun, hr3, ho3, hs3⟩ := rd_drop (w := W) (x := t) (hr.only hoW hrt) (txb_only hk hoW (.inl ⟨_, hTW⟩)) ⟨_, hTW⟩ 0
    unfold pk at hrun
    rw [hW] at hrun
    have HR3 := hide hr3
    have HT3 := hide (Blk.only hTW ho3 (fun e : t = rd => hrt e.symm))
    have HD3 := hide ((hD.only hoW (fun e => htx e.symm)).only ho3 (fun e => hrx e.symm))
    have HO := hide (Only.trans (fp := fun y => y = t ∨ y = db ∨ y = rd) (hoW.mono fun _ _ h => .inl h) (ho3.mono fun _ _ h => .inr (.inr h)))
    clear hr hk hT hD hoW hTW hr3 ho3 hs3 hW
    go_enter Tryz.func59, Tryz.ntmps59
    go_wp2
    go_end0
    exact ⟨rfl, HT3.out, HD3.out, HR3.out, HO.out⟩
  | true =>
    obtain ⟨W1, hW1⟩ : ∃ W, W = w.setCell ⟨t, 4, none⟩ (.bool true) := ⟨_, rfl⟩
    have hoW1 : Only (· = t) w W1 := by rw [hW1]; exact Only.set1 _ _ _ _
    have hTW1 : TxAt W1 t ⟨db, root, keys, true, true, stamp⟩ := by rw [hW1]; exact Blk.set_ hT 4 _
    have hDW1 := hD.only hoW1 (fun e => htx e.symm)
    obtain ⟨W, hW⟩ : ∃ W, W = W1.setCell ⟨db, 5, none⟩ (.pointer none) := ⟨_, rfl⟩
    have hoW : Only (· = db) W1 W := by rw [hW]; exact Only.set1 _ _ _ _
    have hTW : TxAt W t ⟨db, root, keys, true, true, stamp⟩ := Blk.only hTW1 hoW htx
    have hDW : Blk W db 91 (DbCells (DbS.ended ⟨dk, root', keys', writer, rd, poi⟩ true) l) := by rw [hW]; exact hDW1.set_ 5 _
    obtain ⟨w3, hrun, hr3, ho3, hs3⟩ := rd_drop (w := W) (x := t) ((hr.only hoW1 hrt).only hoW hrx) (txb_only (txb_only hk hoW1 (.inl ⟨_, hTW1⟩)) hoW (.inr (not_txb hDW1 (by decide)))) ⟨_, hTW⟩ 0
    unfold pk at hrun
    rw [hW, hW1] at hrun
    have HR3 := hide hr3
    have HT3 := hide (Blk.only hTW ho3 (fun e : t = rd => hrt e.symm))
    have HD3 := hide (hDW.only ho3 (fun e => hrx e.symm))
    have HO := hide (Only.trans (fp := fun y => y = t ∨ y = db ∨ y = rd) ((hoW1.mono fun _ _ h => .inl h).trans (hoW.mono fun _ _ h => .inr (.inl h))) (ho3.mono fun _ _ h => .inr (.inr h)))
    clear hr hk hT hD hoW hTW hr3 ho3 hs3 hW hW1 hDW hDW1 hTW1 hoW1
    go_enter Tryz.func59, Tryz.ntmps59
    go_wp2
    go_end0
    exact ⟨rfl, HT3.out, HD3.out, HR3.out, HO.out⟩

theorem DbCells_lock (s : DbS) (l m : Int) : (DbCells s l).setIfInBounds 0 (.int .i32 m) = DbCells s m := rfl

set_option maxRecDepth 100000 in
set_option maxHeartbeats 1000000 in
theorem abort_any (t x : Nat) (τ : TxS) (s : DbS) (ks : List Nat) (w : World) (hT : TxAt w t τ) (hD : DbAt w x s) (hx : τ.db = x) (hr : RdAt w s.rd ks) (hk : ∀ k ∈ ks, TxB w k) (hok : mayC s.poi τ.done false τ.write = 0) :
    Calls Tryz.prog 27 #[.pointer (some ⟨t, 0, none⟩)] w fun e w' => e = .returned .nilIface ∧ TxAt w' t τ.over ∧ DbAt w' x (s.ended τ.write) ∧ RdAt w' s.rd (ks.erase t) ∧ Only (fun y => y = t ∨ y = x ∨ y = s.rd) w w' := by
  have t0 : w.cell? ⟨t, 0, none⟩ = some (.pointer (some ⟨x, 0, none⟩)) := by rw [← hx]; exact cellOf hT 0 rfl
  have htx : t ≠ x := Blk.ne_ hT hD (by decide)
  have hrt : s.rd ≠ t := hr.ne_blk hT
  have hrx : s.rd ≠ x := hr.ne_blk hD
  have HL := hide (lock_at hD rfl)
  have HT := hide hT
  have HR := hide hr
  have HK := hide (fun W (ho : Only (· = x) w W) => txb_only hk ho (.inr (not_txb hD (by decide))))
  have HOK := hide hok
  clear hT hD hr hk hok
  go_enter_defers Tryz.func27, Tryz.ntmps27
  go_wp2_with (first
    | (go_at_call 51; refine HL.out.mono ?_; rintro e w1 ⟨rfl, hb1, ho1, hs1⟩
       have hT1 := HT.out.only ho1 htx
       have k0 : w1.cell? ⟨t, 0, none⟩ = some (.pointer (some ⟨x, 0, none⟩)) := by rw [← hx]; exact cellOf hT1 0 rfl
       have HM := hide (may0_any t x τ s 1 ⟨#[97, 98, 111, 114, 116]⟩ false w1 hT1 hb1 hx)
       have HE := hide (end_any t x τ s 1 ks w1 hT1 hb1 hx (HR.out.only ho1 hrx) (HK.out _ ho1))
       rw [HOK.out] at HM
       have HO1 := hide ho1
       clear hT1 hb1 ho1 hs1)
    | (go_at_call 54; refine HM.out.mono ?_; rintro e w' ⟨v, rfl, ha⟩
       obtain ⟨rfl, rfl⟩ : v = .nilIface ∧ w1 = w' := by
         rcases ha.2 with h | h
         · exact ⟨h.2.1, h.2.2⟩
         · exact absurd rfl h.1
       clear ha)
    | (go_at_call 59; refine HE.out.mono ?_; rintro e w2 ⟨rfl, hT2, hD2, hR2, ho2⟩))
  refine leaves_cons (f := 52) (args := #[.pointer (some ⟨x, 0, none⟩)]) (by simp) (by simp [go_sem]) ?_
  refine (unlock_at .returning hD2 rfl).mono ?_
  rintro e u' w4 ⟨rfl, rfl, hb4, ho4, hs4⟩
  refine ⟨_, results_tmp rfl _ _ _, rfl, Blk.only hT2 ho4 htx, hb4, hR2.only ho4 hrx, ?_⟩
  exact Only.trans ((HO1.out.mono fun _ _ h => .inr (.inl h)).trans ho2) (ho4.mono fun _ _ h => .inr (.inl h))
end Go.Proofs.YtemondlgcmpbbaaGreatDoor
