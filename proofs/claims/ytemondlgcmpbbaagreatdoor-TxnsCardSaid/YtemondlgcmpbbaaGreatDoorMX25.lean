/- Walks: cursors: Cursor, move. -/
import Derived.Test.YtemondlgcmpbbaaGreatDoorMX09
import Derived.Test.YtemondlgcmpbbaaGreatDoorMX21
import Derived.OwnWalk
import Derived.RegionTactic
import Derived.BigRegion
namespace Go.Proofs.YtemondlgcmpbbaaGreatDoor
open Go.RowKit
set_option maxRecDepth 100000
def zld (w : World) (c t : Nat) (key : Str) (on : Bool) (stamp : Int) : Prop := Blk w c 118 #[.pointer (some ⟨t, 0, none⟩), .string key, .bool on, .int .i64 stamp]
def zgr : ByteArray := ⟨#[99, 117, 114, 115, 111, 114]⟩
set_option maxHeartbeats 1000000 in
theorem zpp (t x : Nat) (τ : TxS) (s : DbS) (w : World) (hT : TxAt w t τ) (hD : DbAt w x s) (hx : τ.db = x) (q : Option Addr) (hroot : τ.root = .pointer q) :
   Calls Tryz.prog 42 #[.pointer (some ⟨t, 0, none⟩)] w fun e w' => Below w.heap.size w w' /\
    ((mayC s.poi τ.done false τ.write = 0 /\ ∃ c, e = .returned (.tuple #[.pointer (some ⟨c, 0, none⟩), .nilIface]) /\ zld w' c t ⟨#[]⟩ false 0 /\ w.heap.size <= c) \/
     (mayC s.poi τ.done false τ.write ≠ 0 /\ ∃ f, e = .returned (.tuple #[.pointer none, zag f]) /\ zao w' f zgr (mayC s.poi τ.done false τ.write) /\ w.heap.size <= f)) := by
 have HS := zaa (zhp t x τ s zgr w hT hD hx q hroot)
 unfold zgr at HS ⊢
 rw [hroot] at HS
 have HD := zaa hD
 clear hT hD
 go_enter Tryz.func42, Tryz.ntmps42
 go_wp2_with (go_at_call 66; go_loud (
  refine HS.out.mono ?_; rintro e w1 ⟨v, rfl, hv, hd1, ht1, ho1⟩
  have hb1 := ho1.back HD.out hd1
  have HB1 := zaa hb1
  clear hb1 hd1 ht1 ho1
  rcases hv with ⟨h0, rfl⟩ | ⟨h0, f, rfl, hf, hlf⟩
  all_goals (have H0 := zaa h0; clear h0)
  all_goals (try unfold zag)
  all_goals (try (have HF := zaa hf; have HLF := zaa hlf; clear hf hlf))))
 . go_ret2
   have hn := Blk.new2 w1 (.cells #[.pointer q, .int .i64 τ.keys] 88) 118 #[.pointer (some ⟨t, 0, none⟩), .string ⟨#[]⟩, .bool false, .int .i64 0]
   exact ⟨(HB1.out.alloc HB1.out.size _).alloc (by have := HB1.out.size; simp; omega) _, .inl ⟨H0.out, _, rfl, hn, by have := HB1.out.size; omega⟩⟩
 . go_ret2
   exact ⟨HB1.out.alloc HB1.out.size _, .inr ⟨H0.out, f, rfl, Blk.alloc HF.out _, HLF.out⟩⟩
end Go.Proofs.YtemondlgcmpbbaaGreatDoor
