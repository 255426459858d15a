/- Walks: half of a list of pairs, of children. -/
import Derived.Test.YtemondlgcmpbbaaGreatDoorMC17
namespace Go.Proofs.YtemondlgcmpbbaaGreatDoor
open Go.RowKit

theorem hidx_step (all : Nat) (l : List Nat) (k n : Nat) (h : k < l.length) : hidx all (l.drop k) n = if all ≤ 2 * (n + l[k]) then 0 else 1 + hidx all (l.drop (k + 1)) (n + l[k]) := by
  rw [List.drop_eq_getElem_cons h]; rfl

set_option maxRecDepth 100000 in
set_option maxHeartbeats 400000 in
/-- half of a list of pairs, by pairSize. -/
theorem half_pair (es : List (Str × Str)) (A : Option Addr) (c : Nat) (w : World) (h : SlC w 68 (.slice A es.length c) es.length (pcells es)) (h1 : 1 ≤ es.length) (hn : es.length ≤ 1000) (hs : (es.map lsz).sum ≤ 100000) :
    Calls Tryz.prog 126 #[.slice A es.length c, .func (.func 127) #[] #[]] w fun e w' => e = .returned (.int .i64 (half (es.map lsz) : Nat)) ∧ Below w.heap.size w w' := by
  obtain ⟨sz, hsz⟩ : ∃ l : List Nat, l = es.map lsz := ⟨_, rfl⟩
  have hszl : sz.length = es.length := by rw [hsz, List.length_map]
  have hall : ∀ k (hk : k < es.length), (es[k].1.size + es[k].2.size ≤ 100000) ∧ (sz.take (k + 1)).sum = (sz.take k).sum + lsz es[k] ∧ (sz.take k).sum ≤ 100000 ∧ (sz.take (k + 1)).sum ≤ 100000 ∧ hidx sz.sum (sz.drop k) (sz.take k).sum = (if sz.sum ≤ 2 * ((sz.take k).sum + lsz es[k]) then 0 else 1 + hidx sz.sum (sz.drop (k + 1)) (sz.take (k + 1)).sum) := by
    intro k hk
    have h1 := sum_take_le sz (k + 1)
    have h2 := sum_take_le sz k
    have h3 := sum_take_succ sz k (by omega)
    have h6 := hidx_step sz.sum sz k (sz.take k).sum (by omega)
    have h4 : sz[k]'(by omega) = lsz es[k] := by simp only [hsz, List.getElem_map]
    rw [h4] at h3 h6
    rw [hsz] at h1 h2
    rw [hsz] at h3 h6 ⊢
    refine ⟨?_, h3, by omega, by omega, ?_⟩
    · have h5 : lsz es[k] ≤ 100000 := by omega
      unfold lsz at h5
      omega
    · rw [h6, h3]
  have hsum := sum_pair es A c w h hn hs
  rw [← hsz] at hsum ⊢
  have hs' : sz.sum ≤ 100000 := by rw [hsz]; exact hs
  have H := hide h
  have HALL := hide hall
  have HSL := hide hszl
  have HSUM := hide hsum
  have HS := hide hs'
  clear h hall hszl hs hsum hs' hsz
  obtain ⟨n, hn'⟩ : ∃ n, n = es.length := ⟨_, rfl⟩
  obtain ⟨al, hal⟩ : ∃ al, al = sz.sum := ⟨_, rfl⟩
  have q0 : al ≤ 100000 := by rw [hal]; exact HS.out
  rw [← hn'] at hn h1 HSUM ⊢
  rw [← hal] at HSUM HALL
  have HN := hide hn'
  have HAL := hide hal
  clear hn' hal
  go_enter Tryz.func126, Tryz.ntmps126
  go_wp2_with (go_at_call 168; refine HSUM.out.mono ?_; rintro e w1 ⟨rfl, hb0⟩)
  go_loopw [6, 14] (fun s i wr => ∃ k : Nat, k ≤ n ∧ i = .int .i64 k ∧ s = .int .i64 ((sz.take k).sum : Nat) ∧ hidx al sz 0 = k + hidx al (sz.drop k) (sz.take k).sum ∧ (k = 0 ∨ 2 * (sz.take k).sum < al) ∧ Below w.heap.size w wr) (fun _ i _ => n - (intOf i).toNat)
  case atStart => exact ⟨0, by omega, rfl, rfl, by simp, .inl rfl, hb0⟩
  case round =>
    obtain ⟨k, hk, rfl, rfl, hx, hor, hb⟩ := hrel
    by_cases hlt : k < n
    · have hk' : k < es.length := by have := HN.out; omega
      obtain ⟨g, o, u, v, hA, hu, hv, c1, c2, hg⟩ := (HN.out ▸ H.out).cells_at hb hlt
      obtain ⟨z1, z2, z3, z4, z5⟩ := HALL.out k hk'
      have hc := pcells_at es k hk'
      rw [hc.1] at hu
      rw [hc.2] at hv
      injection hu with hu
      injection hv with hv
      subst hu
      subst hv
      subst hA
      have HXX := hide hx
      have HOR := hide hor
      have Z1 := hide z1
      have Z2 := hide z2
      have Z3 := hide z3
      have Z4 := hide z4
      have Z5 := hide z5
      have hgr : g < wr.heap.size := Nat.lt_of_lt_of_le hg hb.size
      clear hc z1 z2 z3 z4 z5 hx hor
      obtain ⟨sk, hsk⟩ : ∃ s, s = (sz.take k).sum := ⟨_, rfl⟩
      have q1 : sk ≤ 100000 := by rw [hsk]; exact Z3.out
      rw [← hsk]
      rw [← hsk] at Z5 HOR HXX
      have HSK := hide hsk
      clear hsk
      obtain ⟨z, hz⟩ : ∃ z, z = lsz es[k] := ⟨_, rfl⟩
      have q2 : z ≤ 100000 := by have := Z2.out; have := Z4.out; omega
      rw [← hz] at Z5
      have HZ := hide hz
      clear hz
      have hnew : Below w.heap.size w wr := hb
      have hsz' : w.heap.size ≤ wr.heap.size := hb.size
      by_cases hge : al ≤ 2 * (sk + z)
      · have hge' : ¬ (2 * ((sk : Int) + (z : Int)) < (al : Int)) := by omega
        have hge2 : (al : Int) ≤ 2 * ((sk : Int) + (z : Int)) := by omega
        go_wp2_with (go_at_call 127; refine (pairSize_any es[k].1 es[k].2 z _ Z1.out HZ.out).mono ?_; rintro e w1 ⟨rfl, hb1⟩)
        all_goals
          go_ret
          refine ⟨ret_int ?_, ?_⟩
          · have h5 := Z5.out
            rw [if_pos hge] at h5
            have h6 := HXX.out
            rw [h5] at h6
            unfold half
            rw [← HAL.out, h6, HSL.out, ← HN.out]
            omega
          · refine (hb.alloc hsz' _).trans (hb1.mono ?_)
            simp
            omega
      · have hge' : 2 * ((sk : Int) + (z : Int)) < (al : Int) := by omega
        have hge2 : ¬ (al : Int) ≤ 2 * ((sk : Int) + (z : Int)) := by omega
        go_wp2_with (go_at_call 127; refine (pairSize_any es[k].1 es[k].2 z _ Z1.out HZ.out).mono ?_; rintro e w1 ⟨rfl, hb1⟩)
        go_roundw
        case rel =>
          have h2 := Z2.out
          rw [← HSK.out, ← HZ.out] at h2
          refine ⟨k + 1, by omega, by go_num, ?_, ?_, .inr (by rw [h2]; omega), ?_⟩
          · rw [h2]
            go_num
          · have h5 := Z5.out
            rw [if_neg hge] at h5
            have h6 := HXX.out
            omega
          · refine (hb.alloc hsz' _).trans (hb1.mono ?_)
            simp
            omega
        case measure => simp [intOf]; omega
    · exfalso
      have hkn : k = n := by omega
      have h7 : (sz.take k).sum = al := by rw [List.take_of_length_le (by have := HSL.out; have := HN.out; omega)]; exact HAL.out.symm
      rcases hor with h8 | h8 <;> omega

set_option maxRecDepth 100000 in
set_option maxHeartbeats 400000 in
/-- half of a list of children, by kidSize. -/
theorem half_kid {K : Type} (es : List (Str × K)) (bs : List Nat) (A : Option Addr) (c : Nat) (w : World) (h : SlC w 139 (.slice A es.length c) es.length (kcells es bs)) (h1 : 1 ≤ es.length) (hn : es.length ≤ 1000) (hs : (es.map ksz).sum ≤ 100000) (hbs : bs.length = es.length) :
    Calls Tryz.prog 129 #[.slice A es.length c, .func (.func 130) #[] #[]] w fun e w' => e = .returned (.int .i64 (half (es.map ksz) : Nat)) ∧ Below w.heap.size w w' := by
  obtain ⟨sz, hsz⟩ : ∃ l : List Nat, l = es.map ksz := ⟨_, rfl⟩
  have hszl : sz.length = es.length := by rw [hsz, List.length_map]
  have hall : ∀ k (hk : k < es.length), (es[k].1.size ≤ 100000) ∧ (sz.take (k + 1)).sum = (sz.take k).sum + ksz es[k] ∧ (sz.take k).sum ≤ 100000 ∧ (sz.take (k + 1)).sum ≤ 100000 ∧ hidx sz.sum (sz.drop k) (sz.take k).sum = (if sz.sum ≤ 2 * ((sz.take k).sum + ksz es[k]) then 0 else 1 + hidx sz.sum (sz.drop (k + 1)) (sz.take (k + 1)).sum) := by
    intro k hk
    have h1 := sum_take_le sz (k + 1)
    have h2 := sum_take_le sz k
    have h3 := sum_take_succ sz k (by omega)
    have h6 := hidx_step sz.sum sz k (sz.take k).sum (by omega)
    have h4 : sz[k]'(by omega) = ksz es[k] := by simp only [hsz, List.getElem_map]
    rw [h4] at h3 h6
    rw [hsz] at h1 h2
    rw [hsz] at h3 h6 ⊢
    refine ⟨?_, h3, by omega, by omega, ?_⟩
    · have h5 : ksz es[k] ≤ 100000 := by omega
      unfold ksz at h5
      omega
    · rw [h6, h3]
  have hsum := sum_kid es bs A c w h hn hs hbs
  rw [← hsz] at hsum ⊢
  have hs' : sz.sum ≤ 100000 := by rw [hsz]; exact hs
  have H := hide h
  have HALL := hide hall
  have HSL := hide hszl
  have HSUM := hide hsum
  have HS := hide hs'
  clear h hall hszl hs hsum hs' hsz
  obtain ⟨n, hn'⟩ : ∃ n, n = es.length := ⟨_, rfl⟩
  obtain ⟨al, hal⟩ : ∃ al, al = sz.sum := ⟨_, rfl⟩
  have q0 : al ≤ 100000 := by rw [hal]; exact HS.out
  rw [← hn'] at hn h1 HSUM ⊢
  rw [← hal] at HSUM HALL
  have HN := hide hn'
  have HAL := hide hal
  clear hn' hal
  go_enter Tryz.func129, Tryz.ntmps129
  go_wp2_with (go_at_call 169; refine HSUM.out.mono ?_; rintro e w1 ⟨rfl, hb0⟩)
  go_loopw [6, 14] (fun s i wr => ∃ k : Nat, k ≤ n ∧ i = .int .i64 k ∧ s = .int .i64 ((sz.take k).sum : Nat) ∧ hidx al sz 0 = k + hidx al (sz.drop k) (sz.take k).sum ∧ (k = 0 ∨ 2 * (sz.take k).sum < al) ∧ Below w.heap.size w wr) (fun _ i _ => n - (intOf i).toNat)
  case atStart => exact ⟨0, by omega, rfl, rfl, by simp, .inl rfl, hb0⟩
  case round =>
    obtain ⟨k, hk, rfl, rfl, hx, hor, hb⟩ := hrel
    by_cases hlt : k < n
    · have hk' : k < es.length := by have := HN.out; omega
      have hbk : k < bs.length := by omega
      obtain ⟨g, o, u, v, hA, hu, hv, c1, c2, hg⟩ := (HN.out ▸ H.out).cells_at hb hlt
      obtain ⟨z1, z2, z3, z4, z5⟩ := HALL.out k hk'
      have hc := kcells_at es bs k hk' hbk
      rw [hc.1] at hu
      rw [hc.2] at hv
      injection hu with hu
      injection hv with hv
      subst hu
      subst hv
      subst hA
      have HXX := hide hx
      have HOR := hide hor
      have Z1 := hide z1
      have Z2 := hide z2
      have Z3 := hide z3
      have Z4 := hide z4
      have Z5 := hide z5
      have hgr : g < wr.heap.size := Nat.lt_of_lt_of_le hg hb.size
      clear hc z1 z2 z3 z4 z5 hx hor
      obtain ⟨sk, hsk⟩ : ∃ s, s = (sz.take k).sum := ⟨_, rfl⟩
      have q1 : sk ≤ 100000 := by rw [hsk]; exact Z3.out
      rw [← hsk]
      rw [← hsk] at Z5 HOR HXX
      have HSK := hide hsk
      clear hsk
      obtain ⟨z, hz⟩ : ∃ z, z = ksz es[k] := ⟨_, rfl⟩
      have q2 : z ≤ 100000 := by have := Z2.out; have := Z4.out; omega
      rw [← hz] at Z5
      have HZ := hide hz
      clear hz
      have hnew : Below w.heap.size w wr := hb
      have hsz' : w.heap.size ≤ wr.heap.size := hb.size
      by_cases hge : al ≤ 2 * (sk + z)
      · have hge' : ¬ (2 * ((sk : Int) + (z : Int)) < (al : Int)) := by omega
        have hge2 : (al : Int) ≤ 2 * ((sk : Int) + (z : Int)) := by omega
        go_wp2_with (go_at_call 130; refine (kidSize_any es[k].1 (bs[k]'hbk) z _ Z1.out HZ.out).mono ?_; rintro e w1 ⟨rfl, hb1⟩)
        all_goals
          go_ret
          refine ⟨ret_int ?_, ?_⟩
          · have h5 := Z5.out
            rw [if_pos hge] at h5
            have h6 := HXX.out
            rw [h5] at h6
            unfold half
            rw [← HAL.out, h6, HSL.out, ← HN.out]
            omega
          · refine (hb.alloc hsz' _).trans (hb1.mono ?_)
            simp
            omega
      · have hge' : 2 * ((sk : Int) + (z : Int)) < (al : Int) := by omega
        have hge2 : ¬ (al : Int) ≤ 2 * ((sk : Int) + (z : Int)) := by omega
        go_wp2_with (go_at_call 130; refine (kidSize_any es[k].1 (bs[k]'hbk) z _ Z1.out HZ.out).mono ?_; rintro e w1 ⟨rfl, hb1⟩)
        go_roundw
        case rel =>
          have h2 := Z2.out
          rw [← HSK.out, ← HZ.out] at h2
          refine ⟨k + 1, by omega, by go_num, ?_, ?_, .inr (by rw [h2]; omega), ?_⟩
          · rw [h2]
            go_num
          · have h5 := Z5.out
            rw [if_neg hge] at h5
            have h6 := HXX.out
            omega
          · refine (hb.alloc hsz' _).trans (hb1.mono ?_)
            simp
            omega
        case measure => simp [intOf]; omega
    · exfalso
      have hkn : k = n := by omega
      have h7 : (sz.take k).sum = al := by rw [List.take_of_length_le (by have := HSL.out; have := HN.out; omega)]; exact HAL.out.symm
      rcases hor with h8 | h8 <;> omega

end Go.Proofs.YtemondlgcmpbbaaGreatDoor
