/- A script opened; the laid variable read; the world that meets the condition. -/
import Derived.Test.YtemondlgcmpbbaaGreatDoorOp
import Derived.Test.YtemondlgcmpbbaaGreatDoorRows
import Derived.ChangeSame
import Derived.ChangeVars
import Derived.JoinedOf
import Derived.RowKit
import Derived.RowKitTokens
import Derived.LaidLaws
import Derived.LaidHandle
import Derived.Stop.Joined
import Derived.Carry
import Derived.Deep.Slices
import Derived.ProofKit
namespace Go.Proofs.YtemondlgcmpbbaaGreatDoor
open Go.ChangeShapes Go.WideShapes Go.RowKit Go.Deep

theorem tOwn : ownKnob Tryz.prog.godebug = none := by kernel_rfl
theorem tEt : Tryz.prog.globalNamed "errors.errorType" = some 0 := by kernel_rfl
theorem tRt : (Tryz.prog.cutTypes.find? (·.1 == "internal/reflectlite.rtype")).map (·.2) = some 214 := by kernel_rfl
theorem tSize : Tryz.prog.types.size = 331 := by kernel_rfl
theorem tOneRow : ((List.range 331).filter fun t => Tryz.prog.rowNamed t [101, 114, 114, 111, 114]) = [31] := by kernel_rfl
theorem tLaidOut : laidOutB Tryz.prog = true := by kernel_rfl

def tLaid : List (String × DataW Unit) := [("errors.errorType", Rows.laid_errors_errorType)]
/-- What the condition gives a walk. -/
theorem glob_of_laid {W : World} (h : laidMetH Tryz.prog tLaid W) : Glob W := by
  have h' : laidMet Tryz.prog [] W ∧ handlesMet Tryz.prog tLaid W := h
  obtain ⟨name, u, ty, e1, e2, e3, e4, e5⟩ := h'.2 _ (List.mem_singleton.2 rfl)
  have en : name = [101, 114, 114, 111, 114] := (Option.some.inj e1).symm
  subst en
  obtain rfl := Option.some.inj (tRt.symm.trans e2)
  have hm : ty ∈ (List.range 331).filter fun t => Tryz.prog.rowNamed t [101, 114, 114, 111, 114] := List.mem_filter.2 ⟨List.mem_range.2 (by rw [← tSize]; exact e3), e4⟩
  rw [tOneRow] at hm
  obtain rfl := List.mem_singleton.1 hm
  have hh : typeHandle Tryz.prog 31 = .pointer (some ⟨1, 31, none⟩) := by kernel_rfl
  rw [hh] at e5
  unfold Glob
  simpa using World.var?_cell tEt e5 0

/-- A world that meets the condition: the settled one, the variable's cell laid. -/
noncomputable def laidWorld (os : Os) : World :=
  let w0 := World.holding Tryz.prog os ⟨#[], #[], []⟩
  { w0 with heap := w0.heap.modify 0 fun
      | .cells _ t frozen => .cells #[.iface 214 (.agg #[.pointer (some ⟨1, 31, none⟩)])] t frozen
      | o => o }
theorem laidWorld_met (os : Os) (args : Array Value) : laidMetH Tryz.prog tLaid ((laidWorld os).forCall (fun _ _ => 0) ⟨#[], args, []⟩).memory :=
  laidMetH_of_parts (laidMet_nil _ _) (by kernel_rfl)

theorem I64_of_wf {n : Int} (h : (Lit.int .i64 n).wf = true) : I64 n := by
  simp only [Lit.wf, Bool.and_eq_true, IntKind.min, IntKind.max] at h
  exact ⟨by have := h.1; simpa [IntKind.signed, IntKind.bits] using this, by have := h.2; simpa [IntKind.signed, IntKind.bits] using this⟩

theorem list_seven {α : Type} {cs : List α} (hl : cs.length = 7) {a b c d e f g : α} (h0 : (cs.drop 0).take 1 = [a]) (h1 : (cs.drop 1).take 1 = [b]) (h2 : (cs.drop 2).take 1 = [c]) (h3 : (cs.drop 3).take 1 = [d]) (h4 : (cs.drop 4).take 1 = [e]) (h5 : (cs.drop 5).take 1 = [f]) (h6 : (cs.drop 6).take 1 = [g]) : cs = [a, b, c, d, e, f, g] := by
  match cs, hl with
  | [x0, x1, x2, x3, x4, x5, x6], _ => simp_all

section
variable {H : Type} {enc : TypeId × Value → H} {w : World} {base : Nat} {spare : Nat → Bool} {held : Bool}

/-- A step's cells, opened. -/
theorem open_op {fuel : Nat} {cs : List Value} {x : DataW H × List MemPlace} (h : DataW.trod enc Tryz.prog w base spare held fuel 124 cs = some x) : ∃ o : OpS, o.ok ∧ cs = o.cells.toList := by
  obtain ⟨xs, n, rfl, rfl, hlen, hxl, hf⟩ := DataW.trod_struct Tryz.underlying124 h
  have hc : Tryz.prog.cellsOf 124 = 7 := by kernel_rfl
  rw [hc] at hlen
  have hi : Tryz.prog.cellsOf 3 = 1 := by kernel_rfl
  have hs : Tryz.prog.cellsOf 9 = 1 := by kernel_rfl
  have hx : ∀ i, i < 7 → ∃ y, xs[i]? = some y := fun i h => ⟨_, List.getElem?_eq_getElem (by rw [hxl]; exact h)⟩
  obtain ⟨y0, e0⟩ := hx 0 (by omega)
  obtain ⟨y1, e1⟩ := hx 1 (by omega)
  obtain ⟨y2, e2⟩ := hx 2 (by omega)
  obtain ⟨y3, e3⟩ := hx 3 (by omega)
  obtain ⟨y4, e4⟩ := hx 4 (by omega)
  obtain ⟨y5, e5⟩ := hx 5 (by omega)
  obtain ⟨y6, e6⟩ := hx 6 (by omega)
  have f0 : DataW.trod enc Tryz.prog w base spare held n 3 ((cs.drop 0).take (Tryz.prog.cellsOf 3)) = some y0 := (hf 0 _ rfl).trans e0
  have f1 : DataW.trod enc Tryz.prog w base spare held n 3 ((cs.drop 1).take (Tryz.prog.cellsOf 3)) = some y1 := (hf 1 _ rfl).trans e1
  have f2 : DataW.trod enc Tryz.prog w base spare held n 3 ((cs.drop 2).take (Tryz.prog.cellsOf 3)) = some y2 := (hf 2 _ rfl).trans e2
  have f3 : DataW.trod enc Tryz.prog w base spare held n 3 ((cs.drop 3).take (Tryz.prog.cellsOf 3)) = some y3 := (hf 3 _ rfl).trans e3
  have f4 : DataW.trod enc Tryz.prog w base spare held n 3 ((cs.drop 4).take (Tryz.prog.cellsOf 3)) = some y4 := (hf 4 _ rfl).trans e4
  have f5 : DataW.trod enc Tryz.prog w base spare held n 9 ((cs.drop 5).take (Tryz.prog.cellsOf 9)) = some y5 := (hf 5 _ rfl).trans e5
  have f6 : DataW.trod enc Tryz.prog w base spare held n 9 ((cs.drop 6).take (Tryz.prog.cellsOf 9)) = some y6 := (hf 6 _ rfl).trans e6
  rw [hi] at f0 f1 f2 f3 f4
  rw [hs] at f5 f6
  obtain ⟨n0, c0, -, w0⟩ := DataW.trod_int Tryz.underlying3 f0
  obtain ⟨n1, c1, -, w1⟩ := DataW.trod_int Tryz.underlying3 f1
  obtain ⟨n2, c2, -, w2⟩ := DataW.trod_int Tryz.underlying3 f2
  obtain ⟨n3, c3, -, w3⟩ := DataW.trod_int Tryz.underlying3 f3
  obtain ⟨n4, c4, -, w4⟩ := DataW.trod_int Tryz.underlying3 f4
  obtain ⟨s5, c5, -, -⟩ := DataW.trod_string Tryz.underlying9 f5
  obtain ⟨s6, c6, -, -⟩ := DataW.trod_string Tryz.underlying9 f6
  exact ⟨⟨n0, n1, n2, n3, n4, s5, s6⟩, ⟨I64_of_wf w0, I64_of_wf w1, I64_of_wf w2, I64_of_wf w3, I64_of_wf w4⟩, list_seven hlen c0 c1 c2 c3 c4 c5 c6⟩

theorem add_plain (b o k : Nat) : Addr.add ⟨b, o, none⟩ k = ⟨b, o + k, none⟩ := by
  unfold Addr.add
  split
  · rename_i h
    subst h
    rfl
  · rfl

theorem lt_of_cell {w : World} {a : Addr} {v : Value} (h : w.cell? a = some v) : a.block < w.heap.size := by
  rcases Nat.lt_or_ge a.block w.heap.size with h' | h'
  · exact h'
  · simp [World.cell?, Array.getElem?_eq_none h'] at h

instance : Inhabited OpS := ⟨⟨0, 0, 0, 0, 0, .empty, .empty⟩⟩

/-- The script, opened. -/
theorem open_script {W : World} {fuel : Nat} {A : Option Addr} {n c : Nat} {x : DataW H × List MemPlace} (h : DataW.trod enc Tryz.prog W 0 spare held fuel 73 [.slice A n c] = some x) :
    ∃ os, ScAt W W.heap.size A n c os ∧ ∀ o ∈ os, o.ok := by
  rcases open_slice Tryz.underlying73 h with ⟨e, -⟩ | ⟨a, len, cap, m, fu, D, Pl, e, hb, hl, hm, hmm, hx, hel⟩
  · obtain ⟨rfl, rfl, rfl⟩ : A = none ∧ n = 0 ∧ c = 0 := by simpa using e
    exact ⟨[], ⟨rfl, Nat.le_refl _, Nat.zero_le _, fun h => absurd h (by omega)⟩, fun o ho => by cases ho⟩
  · obtain ⟨rfl, rfl, rfl⟩ : A = some a ∧ n = len ∧ c = cap := by simpa using e
    have hc : Tryz.prog.cellsOf 124 = 7 := by kernel_rfl
    rw [hc] at hel hx
    have hlm : n ≤ m := by rw [hmm]; split <;> omega
    obtain ⟨f, hf⟩ := choose_lt (α := OpS) (n := n) (p := fun i o => o.ok ∧ W.cells? 0 (a.add (i * 7)) 7 = some o.cells.toList) (fun i hi => by
      obtain ⟨cs', h1, h2⟩ := hel i (by omega)
      obtain ⟨o, ho, rfl⟩ := open_op h2
      exact ⟨o, ho, h1⟩)
    refine ⟨(List.range n).map f, ⟨by simp, hl, hm, fun h0 => ?_⟩, fun o ho => ?_⟩
    · obtain ⟨b, off, sp⟩ := a
      have hcell : ∀ i, i < n → ∀ j, j < 7 → W.cell? ((Addr.add ⟨b, off, sp⟩ (i * 7)).add j) = (f i).cells.toList[j]? := fun i hi => (World.cells?_some (hf i hi).2).2.2
      have hsp : sp = none := by
        have := hcell 0 h0 0 (by omega)
        exact World.cell?_spot (v := .int .i64 (f 0).kind) this
      subst hsp
      refine ⟨b, off, rfl, ?_, fun i hi j v hv => ?_⟩
      · exact lt_of_cell (a := ⟨b, off + 0 * 7 + 0, none⟩) (v := .int .i64 (f 0).kind) (hcell 0 h0 0 (by omega))
      · have hi' : i < n := by simpa using hi
        have hj : j < 7 := by
          have := (List.getElem?_eq_some_iff.1 hv).1
          simpa [OpS.cells] using this
        have e : ((List.range n).map f)[i] = f i := by simp
        rw [e] at hv
        have := (hcell i hi' j hj).trans hv
        rw [add_plain, add_plain] at this
        exact this
    · obtain ⟨i, hi, rfl⟩ := List.mem_map.1 ho
      exact (hf i (List.mem_range.1 hi)).1
end

set_option maxRecDepth 100000 in
theorem opens_lifted (os : Os) (started : os.Started) (H : Type) (enc : TypeId × Value → H) :
    ReturnsInHanded {} Tryz.checked os 12 .any (fun w args => (Rows.opensSpec.pre enc Tryz.prog Tryz.f12 [] false w args ∧ laidMetH Tryz.prog tLaid w) ∧ sizedMet enc Tryz.prog Tryz.f12 (OpenSpec.ofChange Rows.opensSpec) false w args)
      (Rows.opensSpec.post enc Tryz.prog Tryz.f12 false true false false) := by
  refine returnsInHanded_of_change_and (C := Tryz.checked) (X := fun w _ => laidMetH Tryz.prog tLaid w) (fun _ _ _ hh h => h.of_heap hh) tOwn started (by kernel_rfl) Tryz.func12
    (ChangeSpec.witness_at (enc := enc) (C := Tryz.checked) (os := os) (X := fun w _ => laidMetH Tryz.prog tLaid w) false (laidWorld os) #[.slice none 0 0] 8 rfl (by kernel_rfl) (by kernel_rfl) (by kernel_rfl) (by kernel_rfl) (by kernel_rfl) (laidWorld_met os _)) ?_
  intro W base args ds gs before hval0 hW _ _ hL _
  have hW' := hW
  obtain ⟨p, q, hA0, hV, rfl, _, _⟩ := hW
  have hA : DataW.TrodAll enc Tryz.prog W 0 (fun _ => true) true Tryz.f12.params.toList args.toList ds p := hA0
  rw [Tryz.params12] at hA
  obtain ⟨v0, d0, rfl, rfl, h0⟩ := trodAll_one hA
  obtain ⟨rfl, rfl⟩ := trodVars_none hV
  have h0k := h0
  obtain ⟨fuel, hf⟩ := h0
  obtain ⟨A, n, c, rfl⟩ := okWide_slice Tryz.underlying73 ((show ∀ (j : Nat) t v, Tryz.f12.params[j]? = some t → #[v0][j]? = some v → Value.okWide Tryz.prog W .any base t v from hval0) 0 73 v0 (by rw [Tryz.params12]; rfl) rfl)
  clear hA0 hval0
  simp only [List.append_nil] at hW'
  have hlt : ∀ x ∈ p, x.block < W.heap.size := fun x hx => by simpa using hW'.lt x hx
  obtain ⟨os', hs, hok⟩ := open_script (W := W) hf
  have harg0 : ∀ (W' : World), Below W.heap.size W W' → DataW.Trod enc Tryz.prog W' 0 (fun b => decide (b < W.heap.size)) true 73 (.slice A n c) d0 p :=
    fun W' hn => Below.trod tLaidOut (by kernel_rfl) (of_decide_eq_true (by kernel_rfl)) h0k hn hlt
  refine (opens_any A n c os' W hs (glob_of_laid hL) hok).mono fun e W' ⟨he, hnx⟩ => ?_
  subst he
  refine ⟨_, rfl, _, _, _, [], p, [], hW', ?_, ?_, rfl, hnx.frame _, fun h => by cases h⟩
  · exact trodAll_mk1 (shut_bool Tryz.underlying4 true)
  · exact trodAll_mk1 (harg0 _ hnx)

theorem opens_q1 : laidOutB Tryz.pinned.checked.prog = true ∧ mapsRowed Tryz.pinned.checked.prog = true := ⟨by kernel_rfl, by kernel_rfl⟩
theorem opens_q2 : (Rows.opensRow.inPlace == Tryz.pinned.checked.prog.inPlace 12) = true ∧ (Rows.opensRow.unfollowed == Tryz.pinned.checked.prog.unfollowed 12) = true ∧ (Rows.opensRow.recurses == Tryz.pinned.checked.prog.recurses 12) = true ∧ (Rows.opensRow.named == Tryz.pinned.checked.prog.varsNamed 12) = true :=
  ⟨by kernel_rfl, by kernel_rfl, by kernel_rfl, by kernel_rfl⟩
theorem opens_q3 : Tryz.pinned.checked.prog.mayEnter = true := by kernel_rfl
theorem opens_q4 : (Rows.opensRow.lifted == Tryz.pinned.checked.prog.liftsFinal) = true := by kernel_rfl
theorem opens_q5 : (Tryz.pinned.checked.prog.make == some Rows.opensRow.make) = true := by kernel_rfl
theorem opens_q6 : joinedFacts Tryz.pinned.checked.prog 12 Tryz.f12 Rows.opensSpec Rows.opensRow = true := by
  have am : ∀ {a b : Bool}, a = true → b = true → (a && b) = true := fun h k => by rw [h, k]; rfl
  unfold joinedFacts
  repeat' with_reducible apply am
  all_goals first | with_reducible exact opens_q1.1 | with_reducible exact opens_q1.2 | with_reducible exact opens_q2.1 | with_reducible exact opens_q2.2.1 | with_reducible exact opens_q2.2.2.1 | with_reducible exact opens_q2.2.2.2 | with_reducible exact opens_q3 | with_reducible exact opens_q4 | with_reducible exact opens_q5 | kernel_rfl
theorem opens_holds : Rows.OpensSaid :=
  OpenClaim.holds_of_wide 12 Tryz.f12 rfl rfl rfl rfl rfl rfl rfl ⟨rfl, rfl, rfl, rfl, rfl⟩ rfl rfl rfl rfl rfl (by kernel_rfl) Tryz.func12 opens_q6
    (of_decide_eq_true (by kernel_rfl)) (by unfold Func.isWrapper; rw [if_neg (of_decide_eq_false (by kernel_rfl))]; exact ⟨rfl, rfl⟩)
    (fun os started H enc _ => opens_lifted os started H enc)
end Go.Proofs.YtemondlgcmpbbaaGreatDoor
