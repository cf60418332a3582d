/- syntax.Print's deferred closure. -/
import Derived.Test.YtgegfbopogcjpaaDoorSynO
import Derived.Test.YtgegfbopogcjpaaDoorSynQ
namespace Go.Proofs.YtgegfbopogcjpaaDoor
open Go.RowKit
set_option linter.unusedVariables false
set_option linter.unusedSimpArgs false
set_option maxRecDepth 100000
set_option maxHeartbeats 1000000
theorem catch_idle (p q : Addr) (w : World) :
    CallsD Tryd.prog 7 #[.pointer (some p), .pointer (some q)] .returning w fun e u' w' => e = .returned (.tuple #[]) ∧ u' = .returning ∧ w' = w := by
  refine callsD_of_wpS Tryd.func7 rfl fun c₀ cs hu => ?_
  apply wpS_seq
  apply wpS_region
  simp [wpOpsS, go_sem, recoverD, hu, Tryd.ntmps7, Exit.thenS, Array.replicate]
  refine wpS_of_wp ?_
  go_wp2
  cases c₀
  simp_all [bodyPostS, results, Tryd.results7]
theorem ta_none (w : World) : (Instr.typeAssert (.iface 32 (.agg #[])) 20 32 true).run Tryd.prog w = .ok (.tuple #[.agg #[], .bool true]) w := by kernel_rfl
theorem catch_none (b1 b2 : Nat) (s : ByteArray) (k : Int) (w : World) (h1 : Blk w b1 9 #[.string s]) (h2 : Blk w b2 25 #[.int .i64 k]) (hne : b1 ≠ b2) :
    CallsD Tryd.prog 7 #[.pointer (some ⟨b1, 0, none⟩), .pointer (some ⟨b2, 0, none⟩)] (.panicking [{ v := .iface 32 (.agg #[]), recovered := false }]) w fun e u' w' =>
      e = .returned (.tuple #[]) ∧ u' = .panicking [{ v := .iface 32 (.agg #[]), recovered := true }] ∧ Blk w' b1 9 #[.string ⟨#[]⟩] ∧ Blk w' b2 25 #[.int .i64 2] ∧ w'.os = w.os ∧ w'.tape = w.tape ∧ w'.output = w.output ∧ w.heap.size ≤ w'.heap.size ∧ ∀ j, j < w.heap.size → j ≠ b1 → j ≠ b2 → w'.heap[j]? = w.heap[j]? := by
  have c1 := h1.cell 0 (.string s) rfl
  have c2 := h2.cell 0 (.int .i64 k) rfl
  have f1 := h1.free 0
  have f2 := h2.free 0
  have H1 := Lib.hid h1
  have H2 := Lib.hid h2
  have hta := ta_none
  have hl1 := h1.lt
  have hl2 := h2.lt
  clear h1 h2
  refine callsD_of_wpS Tryd.func7 rfl fun c₀ cs hu => ?_
  apply wpS_seq
  apply wpS_region
  simp [wpOpsS, go_sem, recoverD, hu, Tryd.ntmps7, Exit.thenS, Array.replicate]
  refine wpS_of_wp ?_
  go_wp2
  refine ⟨rfl, _, by cases c₀; rfl, _, results_none rfl _ _ _, rfl, rfl, ?_, ?_, rfl, rfl, rfl, ?_, ?_⟩
  · exact ((H1.out.set_ 0 (.string ⟨#[]⟩)).far (p := ⟨b2, 0, none⟩) hne _).alloc _
  · exact ((H2.out.far (p := ⟨b1, 0, none⟩) (fun e => hne e.symm) _).set_ 0 (.int .i64 2)).alloc _
  · simp [World.setCell]
  · intro j hj h1 h2
    exact (Below.heap_alloc _ _ j (by simpa [World.setCell] using hj)).trans ((Below.heap_setCell _ ⟨b2, 0, none⟩ _ j h2).trans (Below.heap_setCell _ ⟨b1, 0, none⟩ _ j h1))
end Go.Proofs.YtgegfbopogcjpaaDoor
