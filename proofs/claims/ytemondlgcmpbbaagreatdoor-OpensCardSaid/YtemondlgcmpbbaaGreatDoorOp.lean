/- Walks: shadowlaw.Opens answers true, whatever the script. -/
import Derived.Test.YtemondlgcmpbbaaGreatDoorPy
namespace Go.Proofs.YtemondlgcmpbbaaGreatDoor
open Go.RowKit

def okOpens (o : OpS) : Prop := o.kind < 4 ∨ o.kind ∈ ([5, 10, 11] : List Int)

theorem steps_opens : StepsOk WI okOpens := by
  intro B N wb w o hw hg h0 hB hN hok hk
  have hk' : o.kind ≤ 0 ∨ (o.kind = 1 ∨ o.kind = 2 ∨ o.kind = 3 ∨ o.kind = 5) ∨ (o.kind = 10 ∨ o.kind = 11) := by
    rcases hk with hk | hk
    · omega
    · simp only [List.mem_cons, List.not_mem_nil, or_false] at hk; omega
  rcases hk' with hk | hk | hk
  · exact step_low hw hB hk
  · exact step_own hw hB hN hok hk
  · exact step_disk hw hg h0 hB hN hok hk

theorem starts_wi : Starts WI := fun w =>
  ⟨.slice none 0 0, .slice none 0 0, [], [], ⟨Blk.new _ _ _, World.ownsRow_nil _ _ _ _, World.ownsRow_nil _ _ _ _, (fun d hd => by cases hd), List.Pairwise.nil, Nat.zero_le _, Nat.zero_le _, Nat.le_refl _⟩⟩

set_option maxRecDepth 100000 in
theorem opens_any (A : Option Addr) (n c : Nat) (os : List OpS) (w : World) (h : ScAt w w.heap.size A n c os) (hg : Glob w) (hok : ∀ o ∈ os, o.ok) :
    Calls Tryz.prog 12 #[.slice A n c] w (PyPost w) := by
  have hb0 : Below w.heap.size w (w.alloc (.cells #[.int .i64 5, .int .i64 10, .int .i64 11] 3)) := (Below.refl _ _).alloc (Nat.le_refl _) _
  have h' : ScAt (w.alloc (.cells #[.int .i64 5, .int .i64 10, .int .i64 11] 3)) (w.alloc (.cells #[.int .i64 5, .int .i64 10, .int .i64 11] 3)).heap.size A n c os := by
    obtain ⟨h1, h2, h3, h4⟩ := h.below hb0
    refine ⟨h1, h2, h3, fun h0 => ?_⟩
    obtain ⟨b, o, hA, hb, hc⟩ := h4 h0
    exact ⟨b, o, hA, by have := hb0.size; omega, hc⟩
  have HP := hide (plays_any (okK := okOpens) steps_opens starts_wi A n c os w.heap.size [5, 10, 11] _ h' (hg.alloc _) hok (Blk.new w 3 #[.int .i64 5, .int .i64 10, .int .i64 11]) (by decide) (fun o ho => ho))
  have HB0 := hide hb0
  clear h h' hg hok hb0
  go_enter Tryz.func12, Tryz.ntmps12
  go_wp2_with (go_at_call 48; refine HP.out.mono ?_; rintro e w' ⟨rfl, hb⟩)
  go_ret
  exact ⟨rfl, HB0.out.trans (hb.mono HB0.out.size)⟩
end Go.Proofs.YtemondlgcmpbbaaGreatDoor
