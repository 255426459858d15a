/- Walks: the device behind its interface: volume.read, write, flush; Fits. -/
import Derived.Test.YtemondlgcmpbbaaGreatDoorDc
import Derived.Test.YtemondlgcmpbbaaGreatDoorDd
namespace Go.Proofs.YtemondlgcmpbbaaGreatDoor
open Go.RowKit

theorem m_blocks (a : Value) (w : World) : (Go.method 431 23 a "Blocks").run Tryz.prog w = .ok (237, a) w := by kernel_rfl
theorem m_read (a : Value) (w : World) : (Go.method 431 23 a "Read").run Tryz.prog w = .ok (239, a) w := by kernel_rfl
theorem m_write (a : Value) (w : World) : (Go.method 431 23 a "Write").run Tryz.prog w = .ok (240, a) w := by kernel_rfl
theorem m_flush (a : Value) (w : World) : (Go.method 431 23 a "Flush").run Tryz.prog w = .ok (238, a) w := by kernel_rfl
theorem check_nil (w : World) : Calls Tryz.prog 133 #[.nilIface] w fun e w' => e = .returned (.tuple #[]) ∧ w = w' := by
  go_enter Tryz.func133, Tryz.ntmps133
  go_wp2
  go_end0
  exact ⟨rfl, rfl⟩

/-- The volume over the disk at b. -/
def vol (b : Nat) : Value := .agg #[.iface 23 (.pointer (some ⟨b, 0, none⟩))]

set_option maxRecDepth 100000 in
theorem fits_any (b n c : Nat) (A : Option Addr) (cv : Value) (m : Nums) (w : World) (h : DkAt w b (.slice A n c) cv m) (hn : n ≤ 1000) :
    Calls Tryz.prog 103 #[.iface 23 (.pointer (some ⟨b, 0, none⟩))] w fun e w' => e = .returned (.bool (decide (8 ≤ n) && decide (n ≤ 400))) ∧ w = w' := by
  have HB := hide (blocks_any b n c A cv m w h)
  have mB := m_blocks
  clear h
  by_cases h1 : 8 ≤ n
  · have q1 : (8 : Int) ≤ n := by omega
    by_cases h2 : n ≤ 400
    · have q2 : (n : Int) ≤ 400 := by omega
      go_enter Tryz.func103, Tryz.ntmps103
      go_wp2_with (go_at_call 237; refine HB.out.mono ?_; rintro e w' ⟨rfl, rfl⟩)
      go_ret
      exact ⟨rBool (by simp [h1, h2]), rfl⟩
    · have q2 : ¬ (n : Int) ≤ 400 := by omega
      go_enter Tryz.func103, Tryz.ntmps103
      go_wp2_with (go_at_call 237; refine HB.out.mono ?_; rintro e w' ⟨rfl, rfl⟩)
      go_ret
      exact ⟨rBool (by simp [h2]; omega), rfl⟩
  · have q1 : ¬ (8 : Int) ≤ n := by omega
    go_enter Tryz.func103, Tryz.ntmps103
    go_wp2_with (go_at_call 237; refine HB.out.mono ?_; rintro e w' ⟨rfl, rfl⟩)
    go_ret
    exact ⟨rBool (by simp []), rfl⟩

/-- Its numbers are at most K. -/
def Nums.sm (m : Nums) (K : Nat) : Prop := 0 ≤ m.calls ∧ m.calls ≤ K ∧ 0 ≤ m.writes ∧ m.writes ≤ K ∧ 0 ≤ m.told ∧ m.told ≤ K
/-- Far from the edge. -/
def edge : Nat := 4611686018427387904
theorem Nums.sm.small {m : Nums} {K : Nat} (h : m.sm K) (hK : K ≤ edge) : m.small := by
  unfold edge at hK
  obtain ⟨h1, h2, h3, h4, h5, h6⟩ := h
  exact ⟨h1, by omega, h3, by omega, h5, by omega⟩
theorem Nums.sm.mono {m : Nums} {K K' : Nat} (h : m.sm K) (hK : K ≤ K') : m.sm K' := by
  obtain ⟨h1, h2, h3, h4, h5, h6⟩ := h
  exact ⟨h1, by omega, h3, by omega, h5, by omega⟩
theorem Nums.sm.tick {m : Nums} {K : Nat} (h : m.sm K) : m.tick.sm (K + 1) := by
  obtain ⟨h1, h2, h3, h4, h5, h6⟩ := h
  unfold Nums.tick Nums.sm
  simp only
  split <;> exact ⟨by omega, by omega, by omega, by omega, by omega, by omega⟩
def Nums.wrote (m : Nums) : Nums := { m.tick with writes := m.writes + 1 }
theorem Nums.sm.wrote {m : Nums} {K : Nat} (h : m.sm K) : m.wrote.sm (K + 1) := by
  have := h.tick
  obtain ⟨h1, h2, h3, h4, h5, h6⟩ := h
  obtain ⟨k1, k2, k3, k4, k5, k6⟩ := this
  exact ⟨k1, k2, show 0 ≤ m.writes + 1 by omega, show m.writes + 1 ≤ _ by omega, k5, k6⟩

/-- A disk in memory: its struct, its blocks, what waits to be flushed. -/
structure Dk (w : World) (K b g base n : Nat) (cv : Value) (m : Nums) (bytes : List UInt8) (cache : List (Nat × List UInt8)) : Prop where
  at_ : DkAt w b (.slice (some ⟨g, 0, none⟩) n n) cv m
  blk : Blk w g 111 (bc bytes).toArray
  len : bytes.length = n * 128
  own : w.ownsRow base 113 129 cv cache.length (ccells cache)
  ok : ∀ x ∈ cache, x.1 < n ∧ x.2.length = 128
  many : cache.length ≤ 90000
  num : m.sm K
  fits : n ≤ 1000
  base_ : base ≤ w.heap.size
/-- The blocks of a disk that may change. -/
def dfp (b g : Nat) (cv : Value) : Nat → Prop := fun x => x = b ∨ x = g ∨ some x = cv.ownBlock

section
variable {w w' : World} {K b g base n : Nat} {cv : Value} {m : Nums} {bytes : List UInt8} {cache : List (Nat × List UInt8)}
theorem Dk.only {fp : Nat → Prop} (h : Dk w K b g base n cv m bytes cache) (ho : Only fp w w') (hf : ∀ x, dfp b g cv x → ¬ fp x) : Dk w' K b g base n cv m bytes cache := by
  refine ⟨h.at_.only ho (hf b (.inl rfl)), h.blk.only ho (hf g (.inr (.inl rfl))), h.len, ?_, h.ok, h.many, h.num, h.fits, Nat.le_trans h.base_ ho.size⟩
  refine ⟨h.own.1, ?_⟩
  rcases h.own.2 with h0 | ⟨g', cap, cur, hv, hb, hg, hr⟩
  · exact .inl h0
  · exact .inr ⟨g', cap, cur, hv, hb, ho.blk (t := 113) hg (hf g' (.inr (.inr (by rw [hv]; rfl)))), hr⟩
theorem Dk.below (h : Dk w K b g base n cv m bytes cache) (hb : Below w.heap.size w w') : Dk w' K b g base n cv m bytes cache := h.only (fp := fun _ => False) (Only.of_below hb) fun _ _ k => k
theorem Dk.drew (h : Dk w K b g base n cv m bytes cache) : Dk w.drew K b g base n cv m bytes cache := h.below (Below.drew (Below.refl _ _))
theorem Dk.lt (h : Dk w K b g base n cv m bytes cache) {x : Nat} (hx : dfp b g cv x) : x < w.heap.size := by
  rcases hx with rfl | rfl | hx
  · exact h.at_.lt
  · exact h.blk.lt
  · exact (ownN_lt h.own hx.symm).2
end

set_option maxRecDepth 100000 in
set_option maxHeartbeats 1000000 in
theorem vread_any (K b g base n i : Nat) (cv : Value) (m : Nums) (bytes : List UInt8) (cache : List (Nat × List UInt8)) (w : World) (h : Dk w K b g base n cv m bytes cache) (hb : m.bad = false) (hi : i < n) (hK : K < edge) :
    Calls Tryz.prog 172 #[vol b, .int .i64 i] w fun e w' => ∃ g', e = .returned (.slice (some ⟨g', 0, none⟩) 128 128) ∧ Dk w' (K + 1) b g base n cv m.tick bytes cache ∧
      Blk w' g' 5 (bc (dread bytes cache i)).toArray ∧ w.heap.size ≤ g' ∧ Only (fun x => x = b) w w' := by
  have h' := h.below ((Below.refl _ _).alloc (Nat.le_refl _) (Obj.cells #[.iface 23 (.pointer (some ⟨b, 0, none⟩))] 147))
  have HR := hide (read_any b i n g base cache.length cv m bytes cache _ h'.at_ (h.num.small (by omega)) hb hi h.fits h'.blk h.len h'.own (fun x hx => (h.ok x hx).2) rfl (by have := h.many; omega))
  have mR := m_read
  have H := hide h
  have H' := hide h'
  clear h h'
  unfold vol
  go_enter Tryz.func172, Tryz.ntmps172
  go_wp2_with (first
    | (go_at_call 239; refine HR.out.mono ?_; rintro e w1 ⟨g', rfl, hd, hg, hz, ho⟩)
    | (go_at_call 133; refine (check_nil _).mono ?_; rintro e w' ⟨rfl, rfl⟩))
  go_ret
  rw [World.size_alloc] at hz
  have hbl : ∀ {x : Nat}, x ≠ b → ¬ (fun x => x = b) x := fun h => h
  have hg' := Blk.only H'.out.blk ho (hbl (H'.out.at_.ne_ H'.out.blk (by decide)).symm)
  have ho' := ownN_only H'.out.own ho (disk_ne H'.out.at_ (by decide))
  exact ⟨g', rfl, ⟨hd, hg', H.out.len, ho', H.out.ok, H.out.many, H.out.num.tick, H.out.fits, Nat.le_trans H'.out.base_ ho.size⟩, hg, by omega, (((Only.refl _ _).alloc _).trans ho)⟩

set_option maxRecDepth 100000 in
set_option maxHeartbeats 1000000 in
theorem vwrite_any (K b g base n i k c : Nat) (A : Option Addr) (cv : Value) (m : Nums) (bytes data : List UInt8) (cache : List (Nat × List UInt8)) (w : World) (h : Dk w K b g base n cv m bytes cache) (hb : m.bad = false) (hi : i < n) (hK : K < edge)
    (hr : SlU w A k c data) (hk : k ≤ 128) (hm : cache.length < 90000) :
    Calls Tryz.prog 92 #[vol b, .int .i64 i, .slice A k c] w fun e w' => ∃ cv', e = .returned (.tuple #[]) ∧ Dk w' (K + 1) b g base n cv' m.wrote bytes (cache ++ [(i, pad 128 data)]) ∧
      Only (dfp b g cv) w w' ∧ ∀ x, dfp b g cv' x → dfp b g cv x ∨ w.heap.size ≤ x := by
  have hbel : Below w.heap.size w (w.alloc (Obj.cells #[.iface 23 (.pointer (some ⟨b, 0, none⟩))] 147)) := (Below.refl _ _).alloc (Nat.le_refl _) _
  have h' := h.below hbel
  have HR := hide (write_any b i n c k n base cache.length A (some ⟨g, 0, none⟩) cv m data cache _ h'.at_ (h.num.small (by omega)) hb hi h.fits h'.own (by omega) (hr.below hbel) hk h'.base_)
  have mR := m_write
  have H := hide h
  have H' := hide h'
  have HRL := hide hr.1
  clear h h' hr hbel
  unfold vol
  go_enter Tryz.func92, Tryz.ntmps92
  go_wp2_with (first
    | (go_at_call 240; refine HR.out.mono ?_; rintro e w1 ⟨cv', rfl, hd, hown, hat, ho⟩)
    | (go_at_call 133; refine (check_nil _).mono ?_; rintro e w' ⟨rfl, rfl⟩))
  go_end0
  have hgn : g ≠ b := (H'.out.at_.ne_ H'.out.blk (by decide)).symm
  have hgc : some g ≠ cv.ownBlock := fun e => own_blk_ne H'.out.own H'.out.blk (by decide) e.symm
  have hg' := Blk.only H'.out.blk ho (fun hx => hx.elim hgn hgc)
  refine ⟨cv', rfl, ⟨hd, hg', H.out.len, by rw [List.length_append]; exact hown, ?_, by rw [List.length_append]; simp only [List.length_cons, List.length_nil]; omega, H.out.num.wrote, H.out.fits, Nat.le_trans H'.out.base_ ho.size⟩, ?_, ?_⟩
  · intro x hx
    rcases List.mem_append.1 hx with hx | hx
    · exact H.out.ok x hx
    · rw [List.mem_singleton.1 hx]
      exact ⟨hi, pad_length _ _ (by rw [HRL.out]; exact hk)⟩
  · refine Only.trans ((Only.refl _ _).alloc _) (ho.mono fun x _ hx => hx.elim .inl fun h => .inr (.inr h))
  · intro x hx
    rcases hx with hx | hx | hx
    · exact .inl (.inl hx)
    · exact .inl (.inr (.inl hx))
    · rcases hat with e | ⟨g', e, hz⟩
      · exact .inl (.inr (.inr (by rw [← e]; exact hx)))
      · right
        rw [World.size_alloc] at hz
        rw [e] at hx
        injection hx with hx
        omega

set_option maxRecDepth 100000 in
set_option maxHeartbeats 1000000 in
theorem vflush_any (K b g base n : Nat) (cv : Value) (m : Nums) (bytes : List UInt8) (cache : List (Nat × List UInt8)) (w : World) (h : Dk w K b g base n cv m bytes cache) (hb : m.bad = false) (hK : K < edge) :
    Calls Tryz.prog 94 #[vol b] w fun e w' => e = .returned (.tuple #[]) ∧ Dk w' (K + 1) b g base n (.slice none 0 0) m.tick (dflush bytes cache) [] ∧ Only (fun x => x = b ∨ x = g) w w' := by
  have hbel : Below w.heap.size w (w.alloc (Obj.cells #[.iface 23 (.pointer (some ⟨b, 0, none⟩))] 147)) := (Below.refl _ _).alloc (Nat.le_refl _) _
  have h' := h.below hbel
  have HR := hide (flush_any b n g base cache.length cv m bytes cache _ h'.at_ (h.num.small (by omega)) hb h.fits h'.blk h.len h'.own h.ok rfl (by have := h.many; omega))
  have mR := m_flush
  have H := hide h
  have H' := hide h'
  clear h h' hbel
  unfold vol
  go_enter Tryz.func94, Tryz.ntmps94
  go_wp2_with (first
    | (go_at_call 238; refine HR.out.mono ?_; rintro e w1 ⟨rfl, hd, hg, ho⟩)
    | (go_at_call 133; refine (check_nil _).mono ?_; rintro e w' ⟨rfl, rfl⟩))
  go_end0
  exact ⟨rfl, ⟨hd, hg, dflush_length _ _ H.out.len H.out.ok, ⟨rfl, .inl ⟨rfl, rfl⟩⟩, (fun x hx => by cases hx), Nat.zero_le _, H.out.num.tick, H.out.fits, Nat.le_trans H'.out.base_ ho.size⟩, ((Only.refl _ _).alloc _).trans ho⟩
end Go.Proofs.YtemondlgcmpbbaaGreatDoor
