/- Walks: plain.Told, disk.Errno; shadow.fail; Format and Open from outside. -/
import Derived.Test.YtemondlgcmpbbaaGreatDoorAs
import Derived.Test.YtemondlgcmpbbaaGreatDoorRd
namespace Go.Proofs.YtemondlgcmpbbaaGreatDoor
open Go.RowKit

theorem told_nil (w : World) : Calls Tryz.prog 30 #[.nilIface] w fun e w' => e = .returned (.int .i64 0) ∧ w = w' := by
  go_enter Tryz.func30, Tryz.ntmps30
  go_wp2
  go_ret
  exact ⟨rfl, rfl⟩

theorem as_fault' (f e : Nat) (s : ByteArray) (tb : Nat) (w : World) (hF : FaultAt w f s e) (hg : Glob w) (ht : Blk w tb 44 #[.int .i64 0]) :
    Calls Tryz.prog 63 #[faultV f, .iface 108 (.pointer (some ⟨tb, 0, none⟩))] w fun ev w' => ev = .returned (.bool true) ∧ Blk w' tb 44 #[.int .i64 e] ∧ Only (· = tb) w w' := by
  refine (as_fault f e s tb w hF hg ht).mono ?_
  rintro ev w' ⟨rfl, w0, hb, rfl⟩
  exact ⟨rfl, (ht.below hb ht.lt).set_ 0 (.int .i64 e), Only.setCell (fp := (· = tb)) (p := ⟨tb, 0, none⟩) (Only.of_below hb) (.inl rfl) _⟩

theorem told_fault (f n : Nat) (s : ByteArray) (w : World) (hF : FaultAt w f s n) (hg : Glob w) : Calls Tryz.prog 30 #[faultV f] w fun e w' => e = .returned (.int .i64 n) ∧ Below w.heap.size w w' := by
  have hbel : Below w.heap.size w (w.alloc (.cells #[.int .i64 0] 44)) := (Below.refl _ _).alloc (Nat.le_refl _) _
  have HA := hide (as_fault' f n s w.heap.size (w.alloc (.cells #[.int .i64 0] 44)) (hF.below hbel hF.lt) (hg.alloc _) (Blk.new _ _ _))
  unfold faultV at HA
  clear hF hg
  unfold faultV
  go_enter Tryz.func30, Tryz.ntmps30
  go_wp2_with (go_at_call 63; refine HA.out.mono ?_; rintro e w' ⟨rfl, hb, ho⟩; have hc := cellOf hb 0 rfl)
  go_ret
  exact ⟨rfl, hbel.trans (ho.to_below (by simp) fun x hx => by omega)⟩

theorem fail_any (s : ByteArray) (n : Int) (w : World) : Calls Tryz.prog 53 #[.string s, .int .i64 n] w fun e w' => e = .returned (faultV w.heap.size) ∧ w' = w.alloc (.cells #[.string s, .iface 44 (.int .i64 n)] 130) := by
  go_enter Tryz.func53, Tryz.ntmps53
  go_wp2
  go_ret
  exact ⟨rfl, rfl⟩

def sFormat : ByteArray := ⟨#[102, 111, 114, 109, 97, 116]⟩
def fitsN (n : Nat) : Bool := decide (8 ≤ n) && decide (n ≤ 400)
theorem fitsN_iff (n : Nat) : fitsN n = true ↔ 8 ≤ n ∧ n ≤ 400 := by simp [fitsN]
def dev (b : Nat) : Value := .iface 23 (.pointer (some ⟨b, 0, none⟩))

section
variable (K b g base n : Nat) (cv : Value) (m : Nums) (bytes : List UInt8) (cache : List (Nat × List UInt8)) (w : World)

theorem sformat_bad (h : Dk w K b g base n cv m bytes cache) (hf : fitsN n = false) :
    Calls Tryz.prog 50 #[.pointer (some ⟨b, 0, none⟩)] w fun e w' => e = .returned (faultV w.heap.size) ∧ w' = w.alloc (.cells #[.string sFormat, .iface 44 (.int .i64 10)] 130) := by
  have HF := hide (fits_any b n n (some ⟨g, 0, none⟩) cv m w h.at_ h.fits)
  unfold fitsN at hf
  rw [hf] at HF
  clear h hf
  go_enter Tryz.func50, Tryz.ntmps50
  go_wp2_with (first
    | (go_at_call 77; go_in)
    | (go_at_call 103; refine HF.out.mono ?_; rintro e w' ⟨rfl, rfl⟩)
    | (go_at_call 53; refine (fail_any _ _ _).mono ?_; rintro e w' ⟨rfl, rfl⟩))
  go_ret
  exact ⟨rfl, rfl⟩

theorem sformat_any (h : Dk w K b g base n cv m bytes cache) (hc : m.calm) (hK : K + 5 < edge) (hf : fitsN n = true) :
    Calls Tryz.prog 50 #[.pointer (some ⟨b, 0, none⟩)] w fun e w' => e = .returned .nilIface ∧ Dk w' (K + 5) b g base n (.slice none 0 0) (ticks m 2).tick.wrote.tick (formatB bytes cache (nextHead (headsN (dread bytes cache)))) [] ∧ Only (fun x => x = b ∨ x = g) w w' := by
  have hn := (fitsN_iff n).1 hf
  have HF := hide (fits_any b n n (some ⟨g, 0, none⟩) cv m w h.at_ h.fits)
  have HD := hide (dformat_any K b g base n cv m bytes cache w h hc hn.1 hK)
  unfold fitsN at hf
  rw [hf] at HF
  clear h hf hc
  go_enter Tryz.func50, Tryz.ntmps50
  go_wp2_with (first
    | (go_at_call 77; go_in)
    | (go_at_call 103; refine HF.out.mono ?_; rintro e w' ⟨rfl, rfl⟩)
    | (go_at_call 109; refine HD.out.mono ?_; rintro e w' ⟨rfl, hd, ho⟩))
  go_ret
  exact ⟨rfl, hd, ho⟩

theorem sopen_bad (h : Dk w K b g base n cv m bytes cache) (hf : fitsN n = false) :
    Calls Tryz.prog 38 #[.pointer (some ⟨b, 0, none⟩)] w fun e w' => e = .returned (.tuple #[.pointer none, faultV w.heap.size]) ∧ w' = w.alloc (.cells #[.string sOpen, .iface 44 (.int .i64 10)] 130) := by
  have HF := hide (fits_any b n n (some ⟨g, 0, none⟩) cv m w h.at_ h.fits)
  unfold fitsN at hf
  rw [hf] at HF
  clear h hf
  go_enter Tryz.func38, Tryz.ntmps38
  go_wp2_with (first
    | (go_at_call 65; go_in)
    | (go_at_call 103; refine HF.out.mono ?_; rintro e w' ⟨rfl, rfl⟩)
    | (go_at_call 53; refine (fail_any _ _ _).mono ?_; rintro e w' ⟨rfl, rfl⟩))
  go_ret2
  exact ⟨rfl, rfl⟩

theorem sopen_none (h : Dk w K b g base n cv m bytes cache) (hc : m.calm) (hK : K + 5 < edge) (hf : fitsN n = true) (hh : headsN (dread bytes cache) = []) :
    Calls Tryz.prog 38 #[.pointer (some ⟨b, 0, none⟩)] w fun e w' => ∃ f, e = .returned (.tuple #[.pointer none, faultV f]) ∧ FaultAt w' f sOpen 9 ∧ w.heap.size ≤ f ∧ Dk w' (K + 2) b g base n cv (ticks m 2) bytes cache ∧ Only (fun x => x = b) w w' := by
  have hn := (fitsN_iff n).1 hf
  have HF := hide (fits_any b n n (some ⟨g, 0, none⟩) cv m w h.at_ h.fits)
  have HD := hide (dopen_none K b g base n cv m bytes cache w h hc hn.1 hK hh)
  have HBL := hide h.at_.lt
  unfold fitsN at hf
  rw [hf] at HF
  unfold faultV at HD
  clear h hf hc hh
  go_enter Tryz.func38, Tryz.ntmps38
  go_wp2_with (first
    | (go_at_call 65; go_in)
    | (go_at_call 103; refine HF.out.mono ?_; rintro e w' ⟨rfl, rfl⟩)
    | (go_at_call 104; refine HD.out.mono ?_; rintro e w' ⟨f, rfl, hfa, hz, hd, ho⟩))
  go_ret2
  have hbl := HBL.out
  have hbel : Below w'.heap.size w' (w'.alloc (.cells #[.pointer none, .int .i64 0] 88)) := (Below.refl _ _).alloc (Nat.le_refl _) _
  exact ⟨f, rfl, hfa.below hbel hfa.lt, hz, hd.below hbel, ho.below hbel⟩
end

/-- A store in memory. -/
structure DbS where
  dk : Nat
  root : Value
  keys : Int
  writer : Value
  rd : Nat
  poi : Bool
def DbAt (w : World) (x : Nat) (s : DbS) : Prop := Blk w x 91 #[.int .i32 0, .int .u32 0, .pointer (some ⟨s.dk, 0, none⟩), s.root, .int .i64 s.keys, s.writer, .map (some s.rd), .bool s.poi]
/-- Just opened. -/
def DbS.fresh (dk rd : Nat) : DbS := ⟨dk, .pointer none, 0, .pointer none, rd, false⟩

set_option maxRecDepth 100000 in
theorem sopen_zero (K b g base n : Nat) (cv : Value) (m : Nums) (bytes : List UInt8) (cache : List (Nat × List UInt8)) (w : World) (h : Dk w K b g base n cv m bytes cache) (hc : m.calm) (hK : K + 5 < edge) (hf : fitsN n = true) (hd : Hd) (tl : List Hd) (hh : headsN (dread bytes cache) = hd :: tl) (hz0 : hd.blk = 0) :
    Calls Tryz.prog 38 #[.pointer (some ⟨b, 0, none⟩)] w fun e w' => ∃ x dk rd, e = .returned (.tuple #[.pointer (some ⟨x, 0, none⟩), .nilIface]) ∧ DbAt w' x (DbS.fresh dk rd) ∧ RdAt w' rd [] ∧ Blk w' dk 151 (#[dev b] ++ hd.cells) ∧ w.heap.size ≤ x ∧ w.heap.size ≤ dk ∧ w.heap.size ≤ rd ∧
      Dk w' (K + 3) b g base n (.slice none 0 0) (ticks m 3) (dflush bytes cache) [] ∧ Only (fun x => x = b ∨ x = g) w w' := by
  have hmm := @run_makeMap Tryz.prog
  have hn := (fitsN_iff n).1 hf
  have HF := hide (fits_any b n n (some ⟨g, 0, none⟩) cv m w h.at_ h.fits)
  have HD := hide (dopen_zero K b g base n m bytes cache cv w h hc hn.1 hK hd tl hh hz0)
  unfold fitsN at hf
  rw [hf] at HF
  clear h hf hc hh hz0
  go_enter Tryz.func38, Tryz.ntmps38
  go_wp2_with (first
    | (go_at_call 65; go_in)
    | (go_at_call 103; refine HF.out.mono ?_; rintro e w' ⟨rfl, rfl⟩)
    | (go_at_call 104; refine HD.out.mono ?_; rintro e w' ⟨f, rfl, hb, hz, hd', ho⟩; have HB := hide hb; have HD' := hide hd'; have HO := hide ho; clear hb hd' ho))
  go_ret2
  have hbel : Below w'.heap.size w' (((w'.alloc (.cells #[.pointer none, .int .i64 0] 88)).alloc (.map #[] 0)).alloc (.cells #[.int .i32 0, .int .u32 0, .pointer (some ⟨f, 0, none⟩), .pointer none, .int .i64 0, .pointer none, .map (some (w'.heap.size + 1)), .bool false] 91)) := (((Below.refl _ _).alloc (Nat.le_refl _) _).alloc (by simp) _).alloc (by simp; omega) _
  have hzz := HO.out.size
  have hblk : DbAt (((w'.alloc (.cells #[.pointer none, .int .i64 0] 88)).alloc (.map #[] 0)).alloc (.cells #[.int .i32 0, .int .u32 0, .pointer (some ⟨f, 0, none⟩), .pointer none, .int .i64 0, .pointer none, .map (some (w'.heap.size + 1)), .bool false] 91)) (w'.heap.size + 1 + 1) (DbS.fresh f (w'.heap.size + 1)) := by
    have := Blk.new ((w'.alloc (.cells #[.pointer none, .int .i64 0] 88)).alloc (.map #[] 0)) 91 #[.int .i32 0, .int .u32 0, .pointer (some ⟨f, 0, none⟩), .pointer none, .int .i64 0, .pointer none, .map (some (w'.heap.size + 1)), .bool false]
    unfold DbAt DbS.fresh
    simpa using this
  have hrd : RdAt ((w'.alloc (.cells #[.pointer none, .int .i64 0] 88)).alloc (.map #[] 0)) (w'.heap.size + 1) [] := by
    have := RdAt.new (w'.alloc (.cells #[.pointer none, .int .i64 0] 88))
    simpa using this
  refine ⟨w'.heap.size + 1 + 1, f, w'.heap.size + 1, rfl, hblk, hrd.only ((Only.refl (fun _ => False) _).alloc _) id, HB.out.below hbel HB.out.lt, by omega, hz, by omega, HD'.out.below hbel, HO.out.below hbel⟩
end Go.Proofs.YtemondlgcmpbbaaGreatDoor
