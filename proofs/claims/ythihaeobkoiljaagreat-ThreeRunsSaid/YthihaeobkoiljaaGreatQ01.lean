/- Lemmas for the law. -/
import Derived.WalkKit
import Derived.WalkSmall
import Derived.Lib.Hide
import Derived.Deep.RegionHeld
import Derived.Deep.Draws
import Derived.Test.YthihaeobkoiljaaGreatRows
import Derived.Deep.AppendLies
import Derived.Maps.AppendAt
import Derived.Deep.Slices
import Derived.Carry
import Derived.ChangeSame
import Derived.ProofKit
import Derived.OpenShut
import Derived.Shelf.Strings.Builder1
import Derived.Shelf.Strings.BuilderF
import Derived.Shelf.Strings.BuilderK
import Derived.Shelf.Strings.Search1
import Derived.Shelf.Strings.Search2
import Derived.Shelf.Strings.Search3
import Derived.Shelf.LaysM
import Derived.Shelf.Strings.Shaped
import Derived.Shelf.Strings.BuilderCap
import Derived.Test.YthihaeobkoiljaaGreatProg
import Derived.Below
import Derived.Deep.LoopGhost
import Derived.Maps.Own
import Derived.Maps.OwnOps
import Derived.DeepKeys5
set_option linter.unusedVariables false
set_option linter.unusedSimpArgs false
set_option maxRecDepth 100000
set_option maxHeartbeats 40000000
namespace Go.Proofs.YthihaeobkoiljaaGreat
open Go.RowKit
theorem sq : (∀ (l : List Oper) (i : Nat) (h : i < l.toArray.size), l.toArray[i] = l[i]'(by simpa using h)) ∧ (∀ (a : Oper) (l : List Oper) (i : Nat) (h : i + 1 < (a :: l).length), (a :: l)[i + 1] = l[i]'(Nat.lt_of_succ_lt_succ h)) ∧ (∀ (a : Oper) (l : List Oper) (h : 0 < (a :: l).length), (a :: l)[0] = a) ∧ (∀ (t : Array Value) (ds : List Deferred) (d : Tmp) (v : Value), Act.put ⟨t, ds⟩ (some d) v = ⟨t.setIfInBounds d v, ds⟩) ∧
 (∀ (a : Act) (v : Value), Act.put a none v = a) ∧ (∀ (l : List Value) (i : Nat) (v : Value), l.toArray.setIfInBounds i v = (l.set i v).toArray) ∧ (∀ (x v : Value) (l : List Value), (x :: l).set 0 v = v :: l) ∧ (∀ (x v : Value) (l : List Value) (i : Nat), (x :: l).set (i + 1) v = x :: l.set i v) :=
 ⟨fun _ _ _ => by simp, fun _ _ _ _ => rfl, fun _ _ _ => rfl, fun _ _ _ _ => rfl, fun _ _ => rfl, fun _ _ _ => by simp, fun _ _ _ => rfl, fun _ _ _ _ => rfl⟩
abbrev At (W : World) (b o : Nat) (v : Value) : Prop := W.cell? ⟨b, o, none⟩ = some v
theorem Lh {p : Prop} (h : p) : Hid p := h
theorem mc {α : Type} {a b : α} {l : List α} (h : a ∈ l) : a ∈ b :: l := List.mem_cons_of_mem _ h
theorem bel {B : Nat} {w w1 : World} (h : Below B w w1 := by (repeat (first | with_reducible assumption | with_reducible exact Below.refl _ _ | (refine Below.setCell ?_ (by first | omega | (simp; done) | (simp; omega)) _) | (refine Below.drewN_ ?_ _) | (refine Below.drew ?_) | (refine Below.alloc ?_ (by first | omega | (simp; done) | (simp; omega)) _)))) : Below B w w1 := h
section
variable {P : Program} {ops : Array Oper} {Q : Exit → Act → World → Prop} {md : Region.Mode} {S : World → Prop} {oi : Oper} {v : Value} {fuel : Nat} {listed : Array Bool} {a : Act} {w : World}
theorem rQ (i : Nat) (h : ∀ K' : Act → World → Prop, Shut (∀ a w, S w → (S w → wpAnyH P md ops Q S fuel (listed.setIfInBounds i true) a w) → K' a w) → if Region.wanted oi (yielded ops a.tmps) = true then Oper.wp P oi a w K' Q else K' (a.put oi.dst undef) w) (ho : ops[i]? = some oi := by rfl) (hr : Region.ready md ops listed = [i] := by decide +kernel) : wpAnyH P md ops Q S (fuel + 1) listed a w :=
 wpAnyH_ready hr (by simp) (AllReadyH.cons ho h AllReadyH.nil)
theorem fQ (h : Q .normal a w) (n : Nat) (hr : Region.ready md ops listed = [] := by kernel_rfl) : wpAnyH P md ops Q S n listed a w := wpAnyH_done hr h n
theorem dQ {id : Nat} (S : World → Prop) (hS : S w.drew) (h : S w.drew → wpAnyH P .any ops Q S ops.size (Array.replicate ops.size false) a w.drew) (hm : P.follows .mixedOrders = true := by kernel_rfl) : (Code.region id ops true).wp P Q a w := wp_region_held_drew hm hS h
end
section
variable {P : Program} {ops : Array Oper} {Q : Exit → Act → World → Prop} {md : Region.Mode} {S : World → Prop} {fuel : Nat} {listed : Array Bool} {a : Act} {w : World}
theorem tQ (i : Nat) {o0 : Oper} {v0 : Value} (h : wpAnyH P md ops Q S fuel (listed.setIfInBounds i true) (a.put o0.dst v0) w)
 (hi0 : ops[i]? = some o0 := by rfl) (hf0 : Region.free md ops listed i = true := by kernel_rfl) (hr0 : (Region.ready md ops listed).contains i = true := by kernel_rfl) (hQ0 : ∀ c a w, Q (.panic c) (a.put o0.dst v0) w → Q (.panic c) a w := by exact fun _ _ _ h => h) (hw0 : Region.wanted o0 (yielded ops a.tmps) = true := by rfl) (hy0 : ∀ w, S w → (execOp a.eval o0).run P w = .ok (.value v0) w := by ((intro w hSw; (try dsimp only [At] at hSw); go_simp) <;> with_reducible rfl))
 (hs : Region.noSelect ops = true := by kernel_rfl) (hS : S w := by assumption) : wpAnyH P md ops Q S (fuel + 1) listed a w :=
 wpAnyH_take hi0 hs hf0 hr0 hQ0 (Or.inl ⟨hw0, hy0⟩) hS (h)
theorem tQ2 (i j : Nat) {o0 o1 : Oper} {v0 v1 : Value} (h : wpAnyH P md ops Q S fuel ((listed.setIfInBounds i true).setIfInBounds j true) ((a.put o0.dst v0).put o1.dst v1) w)
 (hi0 : ops[i]? = some o0 := by rfl) (hf0 : Region.free md ops listed i = true := by kernel_rfl) (hr0 : (Region.ready md ops listed).contains i = true := by kernel_rfl) (hQ0 : ∀ c a w, Q (.panic c) (a.put o0.dst v0) w → Q (.panic c) a w := by exact fun _ _ _ h => h) (hw0 : Region.wanted o0 (yielded ops a.tmps) = true := by rfl) (hy0 : ∀ w, S w → (execOp a.eval o0).run P w = .ok (.value v0) w := by ((intro w hSw; (try dsimp only [At] at hSw); go_simp) <;> with_reducible rfl))
 (hi1 : ops[j]? = some o1 := by rfl) (hf1 : Region.free md ops (listed.setIfInBounds i true) j = true := by kernel_rfl) (hr1 : (Region.ready md ops (listed.setIfInBounds i true)).contains j = true := by kernel_rfl) (hQ1 : ∀ c a w, Q (.panic c) (a.put o1.dst v1) w → Q (.panic c) a w := by exact fun _ _ _ h => h) (hw1 : Region.wanted o1 (yielded ops (a.put o0.dst v0).tmps) = true := by ((try simp only [sq]); rfl)) (hy1 : ∀ w, S w → (execOp (a.put o0.dst v0).eval o1).run P w = .ok (.value v1) w := by ((intro w hSw; (try dsimp only [At] at hSw); (try simp only [sq]); go_simp) <;> with_reducible rfl))
 (hs : Region.noSelect ops = true := by kernel_rfl) (hS : S w := by assumption) : wpAnyH P md ops Q S (fuel + 2) listed a w :=
 wpAnyH_take hi0 hs hf0 hr0 hQ0 (Or.inl ⟨hw0, hy0⟩) hS (wpAnyH_take hi1 hs hf1 hr1 hQ1 (Or.inl ⟨hw1, hy1⟩) hS (h))
theorem tQ3 (i j k : Nat) {o0 o1 o2 : Oper} {v0 v1 v2 : Value} (h : wpAnyH P md ops Q S fuel (((listed.setIfInBounds i true).setIfInBounds j true).setIfInBounds k true) (((a.put o0.dst v0).put o1.dst v1).put o2.dst v2) w)
 (hi0 : ops[i]? = some o0 := by rfl) (hf0 : Region.free md ops listed i = true := by kernel_rfl) (hr0 : (Region.ready md ops listed).contains i = true := by kernel_rfl) (hQ0 : ∀ c a w, Q (.panic c) (a.put o0.dst v0) w → Q (.panic c) a w := by exact fun _ _ _ h => h) (hw0 : Region.wanted o0 (yielded ops a.tmps) = true := by rfl) (hy0 : ∀ w, S w → (execOp a.eval o0).run P w = .ok (.value v0) w := by ((intro w hSw; (try dsimp only [At] at hSw); go_simp) <;> with_reducible rfl))
 (hi1 : ops[j]? = some o1 := by rfl) (hf1 : Region.free md ops (listed.setIfInBounds i true) j = true := by kernel_rfl) (hr1 : (Region.ready md ops (listed.setIfInBounds i true)).contains j = true := by kernel_rfl) (hQ1 : ∀ c a w, Q (.panic c) (a.put o1.dst v1) w → Q (.panic c) a w := by exact fun _ _ _ h => h) (hw1 : Region.wanted o1 (yielded ops (a.put o0.dst v0).tmps) = true := by ((try simp only [sq]); rfl)) (hy1 : ∀ w, S w → (execOp (a.put o0.dst v0).eval o1).run P w = .ok (.value v1) w := by ((intro w hSw; (try dsimp only [At] at hSw); (try simp only [sq]); go_simp) <;> with_reducible rfl))
 (hi2 : ops[k]? = some o2 := by rfl) (hf2 : Region.free md ops ((listed.setIfInBounds i true).setIfInBounds j true) k = true := by kernel_rfl) (hr2 : (Region.ready md ops ((listed.setIfInBounds i true).setIfInBounds j true)).contains k = true := by kernel_rfl) (hQ2 : ∀ c a w, Q (.panic c) (a.put o2.dst v2) w → Q (.panic c) a w := by exact fun _ _ _ h => h) (hw2 : Region.wanted o2 (yielded ops ((a.put o0.dst v0).put o1.dst v1).tmps) = true := by ((try simp only [sq]); rfl)) (hy2 : ∀ w, S w → (execOp ((a.put o0.dst v0).put o1.dst v1).eval o2).run P w = .ok (.value v2) w := by ((intro w hSw; (try dsimp only [At] at hSw); (try simp only [sq]); go_simp) <;> with_reducible rfl))
 (hs : Region.noSelect ops = true := by kernel_rfl) (hS : S w := by assumption) : wpAnyH P md ops Q S (fuel + 3) listed a w :=
 wpAnyH_take hi0 hs hf0 hr0 hQ0 (Or.inl ⟨hw0, hy0⟩) hS (wpAnyH_take hi1 hs hf1 hr1 hQ1 (Or.inl ⟨hw1, hy1⟩) hS (wpAnyH_take hi2 hs hf2 hr2 hQ2 (Or.inl ⟨hw2, hy2⟩) hS (h)))
theorem tQ4 (i j k m : Nat) {o0 o1 o2 o3 : Oper} {v0 v1 v2 v3 : Value} (h : wpAnyH P md ops Q S fuel ((((listed.setIfInBounds i true).setIfInBounds j true).setIfInBounds k true).setIfInBounds m true) ((((a.put o0.dst v0).put o1.dst v1).put o2.dst v2).put o3.dst v3) w)
 (hi0 : ops[i]? = some o0 := by rfl) (hf0 : Region.free md ops listed i = true := by kernel_rfl) (hr0 : (Region.ready md ops listed).contains i = true := by kernel_rfl) (hQ0 : ∀ c a w, Q (.panic c) (a.put o0.dst v0) w → Q (.panic c) a w := by exact fun _ _ _ h => h) (hw0 : Region.wanted o0 (yielded ops a.tmps) = true := by rfl) (hy0 : ∀ w, S w → (execOp a.eval o0).run P w = .ok (.value v0) w := by ((intro w hSw; (try dsimp only [At] at hSw); go_simp) <;> with_reducible rfl))
 (hi1 : ops[j]? = some o1 := by rfl) (hf1 : Region.free md ops (listed.setIfInBounds i true) j = true := by kernel_rfl) (hr1 : (Region.ready md ops (listed.setIfInBounds i true)).contains j = true := by kernel_rfl) (hQ1 : ∀ c a w, Q (.panic c) (a.put o1.dst v1) w → Q (.panic c) a w := by exact fun _ _ _ h => h) (hw1 : Region.wanted o1 (yielded ops (a.put o0.dst v0).tmps) = true := by ((try simp only [sq]); rfl)) (hy1 : ∀ w, S w → (execOp (a.put o0.dst v0).eval o1).run P w = .ok (.value v1) w := by ((intro w hSw; (try dsimp only [At] at hSw); (try simp only [sq]); go_simp) <;> with_reducible rfl))
 (hi2 : ops[k]? = some o2 := by rfl) (hf2 : Region.free md ops ((listed.setIfInBounds i true).setIfInBounds j true) k = true := by kernel_rfl) (hr2 : (Region.ready md ops ((listed.setIfInBounds i true).setIfInBounds j true)).contains k = true := by kernel_rfl) (hQ2 : ∀ c a w, Q (.panic c) (a.put o2.dst v2) w → Q (.panic c) a w := by exact fun _ _ _ h => h) (hw2 : Region.wanted o2 (yielded ops ((a.put o0.dst v0).put o1.dst v1).tmps) = true := by ((try simp only [sq]); rfl)) (hy2 : ∀ w, S w → (execOp ((a.put o0.dst v0).put o1.dst v1).eval o2).run P w = .ok (.value v2) w := by ((intro w hSw; (try dsimp only [At] at hSw); (try simp only [sq]); go_simp) <;> with_reducible rfl))
 (hi3 : ops[m]? = some o3 := by rfl) (hf3 : Region.free md ops (((listed.setIfInBounds i true).setIfInBounds j true).setIfInBounds k true) m = true := by kernel_rfl) (hr3 : (Region.ready md ops (((listed.setIfInBounds i true).setIfInBounds j true).setIfInBounds k true)).contains m = true := by kernel_rfl) (hQ3 : ∀ c a w, Q (.panic c) (a.put o3.dst v3) w → Q (.panic c) a w := by exact fun _ _ _ h => h) (hw3 : Region.wanted o3 (yielded ops (((a.put o0.dst v0).put o1.dst v1).put o2.dst v2).tmps) = true := by ((try simp only [sq]); rfl)) (hy3 : ∀ w, S w → (execOp (((a.put o0.dst v0).put o1.dst v1).put o2.dst v2).eval o3).run P w = .ok (.value v3) w := by ((intro w hSw; (try dsimp only [At] at hSw); (try simp only [sq]); go_simp) <;> with_reducible rfl))
 (hs : Region.noSelect ops = true := by kernel_rfl) (hS : S w := by assumption) : wpAnyH P md ops Q S (fuel + 4) listed a w :=
 wpAnyH_take hi0 hs hf0 hr0 hQ0 (Or.inl ⟨hw0, hy0⟩) hS (wpAnyH_take hi1 hs hf1 hr1 hQ1 (Or.inl ⟨hw1, hy1⟩) hS (wpAnyH_take hi2 hs hf2 hr2 hQ2 (Or.inl ⟨hw2, hy2⟩) hS (wpAnyH_take hi3 hs hf3 hr3 hQ3 (Or.inl ⟨hw3, hy3⟩) hS (h))))
theorem pQ (i : Nat) {o0 : Oper} (h : wpAnyH P md ops Q S fuel (listed.setIfInBounds i true) (a.put o0.dst undef) w)
 (hi0 : ops[i]? = some o0 := by rfl) (hf0 : Region.free md ops listed i = true := by kernel_rfl) (hr0 : (Region.ready md ops listed).contains i = true := by kernel_rfl) (hQ0 : ∀ c a w, Q (.panic c) (a.put o0.dst undef) w → Q (.panic c) a w := by exact fun _ _ _ h => h) (hw0 : Region.wanted o0 (yielded ops a.tmps) = false := by (go_simp))
 (hs : Region.noSelect ops = true := by kernel_rfl) (hS : S w := by assumption) : wpAnyH P md ops Q S (fuel + 1) listed a w :=
 wpAnyH_take hi0 hs hf0 hr0 hQ0 (Or.inr ⟨hw0, rfl⟩) hS (h)
theorem pQ4 (i j k m : Nat) {o0 o1 o2 o3 : Oper} (h : wpAnyH P md ops Q S fuel ((((listed.setIfInBounds i true).setIfInBounds j true).setIfInBounds k true).setIfInBounds m true) ((((a.put o0.dst undef).put o1.dst undef).put o2.dst undef).put o3.dst undef) w)
 (hi0 : ops[i]? = some o0 := by rfl) (hf0 : Region.free md ops listed i = true := by kernel_rfl) (hr0 : (Region.ready md ops listed).contains i = true := by kernel_rfl) (hQ0 : ∀ c a w, Q (.panic c) (a.put o0.dst undef) w → Q (.panic c) a w := by exact fun _ _ _ h => h) (hw0 : Region.wanted o0 (yielded ops a.tmps) = false := by (go_simp))
 (hi1 : ops[j]? = some o1 := by rfl) (hf1 : Region.free md ops (listed.setIfInBounds i true) j = true := by kernel_rfl) (hr1 : (Region.ready md ops (listed.setIfInBounds i true)).contains j = true := by kernel_rfl) (hQ1 : ∀ c a w, Q (.panic c) (a.put o1.dst undef) w → Q (.panic c) a w := by exact fun _ _ _ h => h) (hw1 : Region.wanted o1 (yielded ops (a.put o0.dst undef).tmps) = false := by ((try simp only [sq]); go_simp))
 (hi2 : ops[k]? = some o2 := by rfl) (hf2 : Region.free md ops ((listed.setIfInBounds i true).setIfInBounds j true) k = true := by kernel_rfl) (hr2 : (Region.ready md ops ((listed.setIfInBounds i true).setIfInBounds j true)).contains k = true := by kernel_rfl) (hQ2 : ∀ c a w, Q (.panic c) (a.put o2.dst undef) w → Q (.panic c) a w := by exact fun _ _ _ h => h) (hw2 : Region.wanted o2 (yielded ops ((a.put o0.dst undef).put o1.dst undef).tmps) = false := by ((try simp only [sq]); go_simp))
 (hi3 : ops[m]? = some o3 := by rfl) (hf3 : Region.free md ops (((listed.setIfInBounds i true).setIfInBounds j true).setIfInBounds k true) m = true := by kernel_rfl) (hr3 : (Region.ready md ops (((listed.setIfInBounds i true).setIfInBounds j true).setIfInBounds k true)).contains m = true := by kernel_rfl) (hQ3 : ∀ c a w, Q (.panic c) (a.put o3.dst undef) w → Q (.panic c) a w := by exact fun _ _ _ h => h) (hw3 : Region.wanted o3 (yielded ops (((a.put o0.dst undef).put o1.dst undef).put o2.dst undef).tmps) = false := by ((try simp only [sq]); go_simp))
 (hs : Region.noSelect ops = true := by kernel_rfl) (hS : S w := by assumption) : wpAnyH P md ops Q S (fuel + 4) listed a w :=
 wpAnyH_take hi0 hs hf0 hr0 hQ0 (Or.inr ⟨hw0, rfl⟩) hS (wpAnyH_take hi1 hs hf1 hr1 hQ1 (Or.inr ⟨hw1, rfl⟩) hS (wpAnyH_take hi2 hs hf2 hr2 hQ2 (Or.inr ⟨hw2, rfl⟩) hS (wpAnyH_take hi3 hs hf3 hr3 hQ3 (Or.inr ⟨hw3, rfl⟩) hS (h))))
theorem uQ (i : Nat) {o0 : Oper} (h : wpAnyH P md ops Q S fuel (listed.setIfInBounds i true) (a.put o0.dst undef) w)
 (hi0 : ops[i]? = some o0 := by rfl) (hf0 : Region.free md ops listed i = true := by kernel_rfl) (hr0 : (Region.ready md ops listed).contains i = true := by kernel_rfl) (hQ0 : ∀ c a w, Q (.panic c) (a.put o0.dst undef) w → Q (.panic c) a w := by exact fun _ _ _ h => h) (hw0 : Region.wanted o0 (yielded ops a.tmps) = false := by (go_simp <;> (intro h; cases h)))
 (hs : Region.noSelect ops = true := by kernel_rfl) (hS : S w := by assumption) : wpAnyH P md ops Q S (fuel + 1) listed a w :=
 wpAnyH_take hi0 hs hf0 hr0 hQ0 (Or.inr ⟨hw0, rfl⟩) hS (h)
theorem uQ4 (i j k m : Nat) {o0 o1 o2 o3 : Oper} (h : wpAnyH P md ops Q S fuel ((((listed.setIfInBounds i true).setIfInBounds j true).setIfInBounds k true).setIfInBounds m true) ((((a.put o0.dst undef).put o1.dst undef).put o2.dst undef).put o3.dst undef) w)
 (hi0 : ops[i]? = some o0 := by rfl) (hf0 : Region.free md ops listed i = true := by kernel_rfl) (hr0 : (Region.ready md ops listed).contains i = true := by kernel_rfl) (hQ0 : ∀ c a w, Q (.panic c) (a.put o0.dst undef) w → Q (.panic c) a w := by exact fun _ _ _ h => h) (hw0 : Region.wanted o0 (yielded ops a.tmps) = false := by (go_simp <;> (intro h; cases h)))
 (hi1 : ops[j]? = some o1 := by rfl) (hf1 : Region.free md ops (listed.setIfInBounds i true) j = true := by kernel_rfl) (hr1 : (Region.ready md ops (listed.setIfInBounds i true)).contains j = true := by kernel_rfl) (hQ1 : ∀ c a w, Q (.panic c) (a.put o1.dst undef) w → Q (.panic c) a w := by exact fun _ _ _ h => h) (hw1 : Region.wanted o1 (yielded ops (a.put o0.dst undef).tmps) = false := by ((try simp only [sq]); go_simp <;> (intro h; cases h)))
 (hi2 : ops[k]? = some o2 := by rfl) (hf2 : Region.free md ops ((listed.setIfInBounds i true).setIfInBounds j true) k = true := by kernel_rfl) (hr2 : (Region.ready md ops ((listed.setIfInBounds i true).setIfInBounds j true)).contains k = true := by kernel_rfl) (hQ2 : ∀ c a w, Q (.panic c) (a.put o2.dst undef) w → Q (.panic c) a w := by exact fun _ _ _ h => h) (hw2 : Region.wanted o2 (yielded ops ((a.put o0.dst undef).put o1.dst undef).tmps) = false := by ((try simp only [sq]); go_simp <;> (intro h; cases h)))
 (hi3 : ops[m]? = some o3 := by rfl) (hf3 : Region.free md ops (((listed.setIfInBounds i true).setIfInBounds j true).setIfInBounds k true) m = true := by kernel_rfl) (hr3 : (Region.ready md ops (((listed.setIfInBounds i true).setIfInBounds j true).setIfInBounds k true)).contains m = true := by kernel_rfl) (hQ3 : ∀ c a w, Q (.panic c) (a.put o3.dst undef) w → Q (.panic c) a w := by exact fun _ _ _ h => h) (hw3 : Region.wanted o3 (yielded ops (((a.put o0.dst undef).put o1.dst undef).put o2.dst undef).tmps) = false := by ((try simp only [sq]); go_simp <;> (intro h; cases h)))
 (hs : Region.noSelect ops = true := by kernel_rfl) (hS : S w := by assumption) : wpAnyH P md ops Q S (fuel + 4) listed a w :=
 wpAnyH_take hi0 hs hf0 hr0 hQ0 (Or.inr ⟨hw0, rfl⟩) hS (wpAnyH_take hi1 hs hf1 hr1 hQ1 (Or.inr ⟨hw1, rfl⟩) hS (wpAnyH_take hi2 hs hf2 hr2 hQ2 (Or.inr ⟨hw2, rfl⟩) hS (wpAnyH_take hi3 hs hf3 hr3 hQ3 (Or.inr ⟨hw3, rfl⟩) hS (h))))
end
theorem laid : laidOutB Tryz.prog = true := by kernel_rfl
def Row (w : World) (A : Option Addr) (cs : List Value) : Prop :=
 cs = [] ∨ ∃ b o, A = some ⟨b, o, none⟩ ∧ b < w.heap.size ∧ ∀ j v, cs[j]? = some v → w.cell? ⟨b, o + j, none⟩ = some v
theorem Row.keep {w w' : World} {A : Option Addr} {cs : List Value} (h : Row w A cs) (hb : Below w.heap.size w w') : Row w' A cs := by
 rcases h with h | ⟨b, o, hA, hlt, hc⟩
 ·exact .inl h
 ·exact .inr ⟨b, o, hA, Nat.lt_of_lt_of_le hlt hb.size, fun j v hj => (hb.cell (p := ⟨b, o + j, none⟩) hlt).trans (hc j v hj)⟩
theorem Row.at_ {w : World} {A : Option Addr} {cs : List Value} (h : Row w A cs) (hn : cs ≠ []) : ∃ b o, A = some ⟨b, o, none⟩ ∧ b < w.heap.size ∧ ∀ j v, cs[j]? = some v → w.cell? ⟨b, o + j, none⟩ = some v := by
 rcases h with h | h
 ·exact absurd h hn
 ·exact h
theorem flat_at {α : Type} (f : α → List Value) (s : Nat) (hs : ∀ x, (f x).length = s) (xs : List α) (k j : Nat) (hj : j < s) : (xs.flatMap f)[k * s + j]? = (xs[k]?).bind fun x => (f x)[j]? := by
 induction xs generalizing k with
 | nil => simp
 | cons x xs ih =>
  rw [List.flatMap_cons]
  cases k with
  | zero => rw [List.getElem?_append_left (by rw [hs]; omega)]; simp
  | succ k =>
   rw [List.getElem?_append_right (by rw [hs, Nat.succ_mul]; omega), hs, Nat.succ_mul, show k * s + s + j - s = k * s + j from by omega, ih]
   simp
theorem keep_cell {w w' : World} (hb : Below w.heap.size w w') {b o : Nat} (h : b < w.heap.size) : w'.cell? ⟨b, o, none⟩ = w.cell? ⟨b, o, none⟩ := hb.cell (p := ⟨b, o, none⟩) h
theorem Below.drewN_ {B : Nat} {a w : World} (h : Below B a w) (n : Nat) : Below B a (w.drewN n) := ⟨h.os, h.tape, h.output, h.size, h.block⟩
theorem heap_new {W : World} {o : Obj} {n : Nat} (h : n = W.heap.size) : (W.alloc o).heap[n]? = some o := by subst h; exact heap_alloc_new W o
theorem own_ge {w : World} {base : Nat} {e : TypeId} {size n : Nat} {v : Value} {xs : List Value} (h : w.ownsRow base e size v n xs) : ∀ k, v.ownBlock = some k → base ≤ k := fun k hk => (h.lt k hk).1
theorem own_below {w w1 : World} {B : Nat} {e : TypeId} {size n : Nat} {v : Value} {xs : List Value} (hown : w.ownsRow B e size v n xs) (hb : Below w.heap.size w w1) : w1.ownsRow B e size v n xs :=
 hown.kept (row := none) ⟨hb.os, hb.tape, hb.output, hb.size, fun k hk _ => hb.block k hk⟩ (by cases h : v.ownBlock <;> simp)
theorem add_plain_ (g o j : Nat) : (⟨g, o, none⟩ : Addr).add j = ⟨g, o + j, none⟩ := by
 unfold Addr.add
 by_cases h : j = 0 <;> simp [h]
theorem Row.of_own {w : World} {B : Nat} {e : TypeId} {size n : Nat} {v : Value} {xs : List Value} (h : w.ownsRow B e size v n xs) : ∃ A c, v = .slice A n c ∧ Row w A xs := by
 by_cases hn : 0 < n
 ·obtain ⟨g, cap, hv, _, hlt⟩ := h.form hn
  subst hv
  refine ⟨_, _, rfl, .inr ⟨g, 0, rfl, hlt, fun j u hu => ?_⟩⟩
  have := h.cells (g := g) rfl j u hu
  rw [add_plain_] at this
  exact this
 ·obtain rfl : n = 0 := by omega
  have hx : xs = [] := List.eq_nil_of_length_eq_zero (by simpa using h.1)
  rcases h.2 with ⟨rfl, _⟩ | ⟨g, cap, cur, rfl, _⟩
  ·exact ⟨_, _, rfl, .inl hx⟩
  ·exact ⟨_, _, rfl, .inl hx⟩
def Blk (w : World) (b : Nat) (t : TypeId) (cs : Array Value) : Prop := w.heap[b]? = some (.cells cs t (0, 0))
theorem Blk.lt {w : World} {b : Nat} {t : TypeId} {cs : Array Value} (h : Blk w b t cs) : b < w.heap.size := by
 rcases Nat.lt_or_ge b w.heap.size with hlt | hge
 ·exact hlt
 ·unfold Blk at h; rw [Array.getElem?_eq_none hge] at h; cases h
theorem Blk.cell {w : World} {b : Nat} {t : TypeId} {cs : Array Value} (h : Blk w b t cs) (i : Nat) (v : Value) (hv : cs[i]? = some v) : w.cell? ⟨b, i, none⟩ = some v := by
 unfold Blk at h
 simp [World.cell?, h, hv]
theorem Blk.free {w : World} {b : Nat} {t : TypeId} {cs : Array Value} (h : Blk w b t cs) (i : Nat) : w.frozen? ⟨b, i, none⟩ = false := by
 unfold Blk at h
 simp [World.frozen?, h]
theorem Blk.new_ (w : World) (t : TypeId) (cs : Array Value) : Blk (w.alloc (.cells cs t)) w.heap.size t cs := heap_alloc_new w _
theorem Blk.alloc {w : World} {b : Nat} {t : TypeId} {cs : Array Value} (h : Blk w b t cs) (o : Obj) : Blk (w.alloc o) b t cs := (Below.heap_alloc w o b h.lt).trans h
theorem Blk.drewN {w : World} {b : Nat} {t : TypeId} {cs : Array Value} (h : Blk w b t cs) (n : Nat) : Blk (w.drewN n) b t cs := h
theorem Blk.set_ {w : World} {b : Nat} {t : TypeId} {cs : Array Value} (h : Blk w b t cs) (i : Nat) (u : Value) : Blk (w.setCell ⟨b, i, none⟩ u) b t (cs.setIfInBounds i u) := by
 unfold Blk at *
 simp [World.setCell, Array.getElem?_modify, h]
theorem Blk.far {w : World} {b : Nat} {t : TypeId} {cs : Array Value} (h : Blk w b t cs) {p : Addr} (hp : b ≠ p.block) (u : Value) : Blk (w.setCell p u) b t cs := (Below.heap_setCell w p u b hp).trans h
theorem Blk.below {w w' : World} {b : Nat} {t : TypeId} {cs : Array Value} (h : Blk w b t cs) (hb : Below w.heap.size w w') : Blk w' b t cs := (hb.block b h.lt).trans h
theorem Blk.grown {w w' : World} {b : Nat} {t : TypeId} {cs : Array Value} {row : Option Nat} (h : Blk w b t cs) (hg : w.grownBy w' row) (hne : some b ≠ row) : Blk w' b t cs := (hg.block b h.lt hne).trans h
theorem own_blk {w : World} {base b : Nat} {e t : TypeId} {size n : Nat} {v : Value} {xs : List Value} {cs : Array Value} (h : w.ownsRow base e size v n xs) (hb : Blk w b t cs) (hne : e ≠ t) : some b ≠ v.ownBlock := by
 intro he
 rcases h.2 with ⟨rfl, _⟩ | ⟨g, cap, cur, rfl, _, hg, _⟩
 ·simp [Value.ownBlock] at he
 ·simp [Value.ownBlock] at he
  subst he
  unfold Blk at hb
  rw [hg] at hb
  injection hb with hb
  injection hb with _ ht
  exact hne ht
theorem Row.of_blk {w : World} {g n : Nat} {t : TypeId} {cur : Array Value} {xs : List Value} (h : Blk w g t cur) (ht : cur.toList.take n = xs) : Row w (some ⟨g, 0, none⟩) xs :=
 .inr ⟨g, 0, rfl, h.lt, fun j v hj => by
  rw [Nat.zero_add]
  refine h.cell j v ?_
  rw [← ht, List.getElem?_take] at hj
  split at hj
  ·rw [← Array.getElem?_toList]; exact hj
  ·cases hj⟩
end Go.Proofs.YthihaeobkoiljaaGreat
namespace Go.Proofs.YthihaeobkoiljaaGreat
open Go.ChangeShapes Go.WideShapes Go.ChangeAt Go.RowKit
section
variable {H : Type} {enc : TypeId × Value → H} {P : Program}
theorem all_stay (hl : laidOutB P = true) {W W' : World} (hb : Below W.heap.size W W') : ∀ (ts : List TypeId) (vs : List Value) (ds : List (DataW H)) (ps : List MemPlace), (∀ t ∈ ts, P.readableRec t = true ∧ t < P.types.size) →
 (∀ p ∈ ps, p.block < W.heap.size) → DataW.TrodAll enc P W 0 (fun _ => true) true ts vs ds ps → ∀ sp : Nat → Bool, (∀ p ∈ ps, sp p.block = true) → DataW.TrodAll enc P W' 0 sp true ts vs ds ps
 | [], [], [], ps, _, _, h, _, _ => h
 | t :: ts, v :: vs, d :: ds, ps, hr, hlt, ⟨p, q, h1, h2, e⟩, sp, hsp => by
  subst e
  refine ⟨p, q, ?_, ?_, rfl⟩
  ·exact WideElems.Trod_stays hl (hr t (by simp)).1 (hr t (by simp)).2 h1 (fun x hx => hb.same (hlt x (by simp [hx]))) (fun x hx => hsp x (by simp [hx]))
  ·exact all_stay hl hb ts vs ds q (fun t' ht => hr t' (by simp [ht])) (fun x hx => hlt x (by simp [hx])) h2 sp (fun x hx => hsp x (by simp [hx]))
theorem law_post {f : Func} {s : ChangeSpec} {tb : TypeId} {apart fresh handsOn : Bool} {W W' : World} {args : Array Value} {ds gs : List (DataW H)} {before : List MemPlace}
 (hl : laidOutB P = true) (hread : ∀ t ∈ f.params.toList, P.readableRec t = true ∧ t < P.types.size) (hrt : f.resultTypes = #[tb]) (hbool : P.underlying tb = some .bool) (hv : s.vars = [])
 (hW : DataW.Whole enc P f.params.toList s.vars apart W args.toList ds gs before)
 (hfn : (s.fn H (ds ++ gs)).results = [.lit (.bool true)] ∧ (s.fn H (ds ++ gs)).args = ds ∧ (s.fn H (ds ++ gs)).vars = [])
 (hb : Below W.heap.size W W') :
 s.post enc P f apart fresh handsOn false W args (.bool true) W' := by
 have hlt : ∀ p ∈ before, p.block < W.heap.size := fun p hp => hW.lt p hp
 have hold : ∀ p ∈ before, (fun b => decide (b < W.heap.size)) p.block = true := fun p hp => by simpa using hlt p hp
 obtain ⟨hf1, hf2, hf3⟩ := hfn
 have hW' := hW
 obtain ⟨p, q, hA, hV, hpq, hz, hn⟩ := hW'
 rw [hv] at hV
 obtain ⟨rfl, rfl⟩ := trodVars_none hV
 have hp : before = p := by rw [hpq, List.append_nil]
 subst hp
 have hres : ∀ (b : Nat) (sp : Nat → Bool) (hd : Bool), DataW.TrodAll enc P W' b sp hd f.resultTypes.toList ((Value.bool true).resultList f.resultTypes.size) [.lit (.bool true)] [] := fun b sp hd => by
  rw [hrt]
  exact trodAll_cons_mk (shut_bool hbool true) trodAll_mk0
 refine ⟨ds, [], before, [], before, [], hW, ?_, ?_, ?_, World.keptBut_mono (fun p hp => ⟨hp, ?_⟩) (hb.frame (· ∈ before)), fun h => by cases h⟩
 ·rw [hf1]
  exact hres _ _ _
 ·rw [hf2]
  exact all_stay hl hb _ _ _ _ hread hlt hA _ hold
 ·rw [hf3, hv]
  rfl
 ·simpa using hp
end
section
variable {H : Type} {enc : TypeId × Value → H} {P : Program}
end
end Go.Proofs.YthihaeobkoiljaaGreat
namespace Go.Proofs.YthihaeobkoiljaaGreat
open Go.Shelf Go.RowKit Go.Lib
def sh_lays169_ren : Go.Shelf.Ren := ⟨fun | 169 => 69 | n => n, fun | 70 => 129 | 9 => 9 | 0 => 0 | 72 => 132 | 37 => 130 | 127 => 154 | 3 => 3 | 5 => 5 | n => n, fun | n => n⟩
theorem sh_lays169 : Go.Proofs.Lays.n169 Tryz.prog sh_lays169_ren := {
 mixed := by kernel_rfl
 f169 := Tryz.func69.trans (congrArg some (by kernel_rfl))
 t0 := Tryz.underlying0
 a0 := Tryz.isAgg0
 z0 := Tryz.sizeOf0
 v0 := Tryz.zeroValue0
 t3 := Tryz.underlying3
 a3 := Tryz.isAgg3
 z3 := Tryz.sizeOf3
 v3 := Tryz.zeroValue3
 t9 := Tryz.underlying9
 a9 := Tryz.isAgg9
 z9 := Tryz.sizeOf9
 v9 := Tryz.zeroValue9
 t37 := Tryz.underlying130
 a37 := Tryz.isAgg130
 z37 := Tryz.sizeOf130
 v37 := Tryz.zeroValue130
 t70 := Tryz.underlying129
 a70 := Tryz.isAgg129
 z70 := Tryz.sizeOf129
 v70 := Tryz.zeroValue129
 t72 := Tryz.underlying132
 a72 := Tryz.isAgg132
 z72 := Tryz.sizeOf132
 v72 := Tryz.zeroValue132
 t127 := Tryz.underlying154
 a127 := Tryz.isAgg154
 z127 := Tryz.sizeOf154
 v127 := Tryz.zeroValue154 }
theorem sh_Builder_Extra_169 : Builder.Extra Tryz.prog sh_lays169_ren := {
 sizeBuilder := by kernel_rfl
 liesBuilder := by kernel_rfl
 t5 := Tryz.underlying5
 a5 := Tryz.isAgg5
 z5 := Tryz.sizeOf5
 v5 := Tryz.zeroValue5
 infoByte := by kernel_rfl
 cellsByte := by kernel_rfl
 sizeByte := by kernel_rfl
 neB5 := by decide }
open Go.RowKit in
open Go.RowKit in
open Go.RowKit in
open Go.RowKit in
open Go.RowKit in
open Go.RowKit in
open Go.RowKit in
open Go.RowKit in
open Go.RowKit in
theorem sh_Builder_String_any_k (B b : Nat) (l : List UInt8) (w : World) (h : Lib.IsBuilderF 132 5 B b (Lib.byteCells l) w) (hBw : B ≤ w.heap.size) :
 Calls Tryz.prog 69 #[.pointer (some ⟨b, 0, none⟩)] w fun e w' => e = .returned (.string ⟨l.toArray⟩) ∧ (Lib.IsBuilderF 132 5 B b (Lib.byteCells l) w' ∧ Below B w w' ∧ Lib.OthersKept 5 (some b) w w') := Any.Builder_String_any_k sh_lays169 sh_Builder_Extra_169 B b l w h hBw
def sh_lays144_ren : Go.Shelf.Ren := ⟨fun | 144 => 46 | 143 => 72 | 219 => 92 | 217 => 99 | 225 => 100 | 224 => 101 | 267 => 102 | 266 => 104 | 314 => 105 | n => n, fun | 9 => 9 | 4 => 4 | 3 => 3 | 5 => 5 | 46 => 135 | 146 => 168 | 51 => 160 | n => n, fun | 1 => 0 | n => n⟩
theorem sh_lays144 : Go.Proofs.Lays.n144 Tryz.prog sh_lays144_ren := {
 mixed := by kernel_rfl
 f143 := Tryz.func72.trans (congrArg some (by kernel_rfl))
 f144 := Tryz.func46.trans (congrArg some (by kernel_rfl))
 f217 := Tryz.func99.trans (congrArg some (by kernel_rfl))
 f219 := Tryz.func92.trans (congrArg some (by kernel_rfl))
 f224 := Tryz.func101.trans (congrArg some (by kernel_rfl))
 f225 := Tryz.func100.trans (congrArg some (by kernel_rfl))
 f266 := Tryz.func104.trans (congrArg some (by kernel_rfl))
 f267 := Tryz.func102.trans (congrArg some (by kernel_rfl))
 f314 := Tryz.func105.trans (congrArg some (by kernel_rfl))
 t3 := Tryz.underlying3
 a3 := Tryz.isAgg3
 z3 := Tryz.sizeOf3
 v3 := Tryz.zeroValue3
 t4 := Tryz.underlying4
 a4 := Tryz.isAgg4
 z4 := Tryz.sizeOf4
 v4 := Tryz.zeroValue4
 t5 := Tryz.underlying5
 a5 := Tryz.isAgg5
 z5 := Tryz.sizeOf5
 v5 := Tryz.zeroValue5
 t9 := Tryz.underlying9
 a9 := Tryz.isAgg9
 z9 := Tryz.sizeOf9
 v9 := Tryz.zeroValue9
 t46 := Tryz.underlying135
 a46 := Tryz.isAgg135
 z46 := Tryz.sizeOf135
 v46 := Tryz.zeroValue135
 t51 := Tryz.underlying160
 a51 := Tryz.isAgg160
 z51 := Tryz.sizeOf160
 v51 := Tryz.zeroValue160
 t146 := Tryz.underlying168
 a146 := Tryz.isAgg168
 z146 := Tryz.sizeOf168
 v146 := Tryz.zeroValue168
 g1 := by kernel_rfl }
open Go.RowKit Go.Lib in
theorem sh_strings_Contains (s sub : ByteArray) (m : Int) (w : World) (hs : s.size < 4294967281) (hm : w.cell? ⟨0, 0, none⟩ = some (.int .i64 m)) :
 Calls Tryz.prog 46 #[.string s, .string sub] w fun e w' => e = .returned (.bool (Lib.contains s.data.toList sub.data.toList)) ∧ w' = w := Any.strings_Contains sh_lays144 s sub m w hs hm
def sh_laysM144_ren : Go.Shelf.Ren := ⟨fun | 144 => 46 | 143 => 72 | 219 => 92 | 217 => 99 | 225 => 100 | 224 => 101 | 267 => 102 | 266 => 104 | 314 => 105 | n => n, fun | 9 => 9 | 4 => 4 | 3 => 3 | 5 => 5 | 46 => 135 | 146 => 168 | 51 => 160 | n => n, fun | 1 => 0 | n => n⟩
theorem sh_laysM144 : Go.Proofs.LaysM.n144 Tryz.prog sh_laysM144_ren := {
 mixed := by kernel_rfl
 f143 := Tryz.func72.trans (congrArg some (by kernel_rfl))
 f144 := Tryz.func46.trans (congrArg some (by kernel_rfl))
 f217 := Tryz.func99.trans (congrArg some (by kernel_rfl))
 f219 := Tryz.func92.trans (congrArg some (by kernel_rfl))
 f224 := Tryz.func101.trans (congrArg some (by kernel_rfl))
 f225 := Tryz.func100.trans (congrArg some (by kernel_rfl))
 f266 := Tryz.func104.trans (congrArg some (by kernel_rfl))
 f267 := Tryz.func102.trans (congrArg some (by kernel_rfl))
 f314 := Tryz.func105.trans (congrArg some (by kernel_rfl))
 t3 := Tryz.underlying3
 a3 := Tryz.isAgg3
 z3 := Tryz.sizeOf3
 v3 := Tryz.zeroValue3
 t4 := Tryz.underlying4
 a4 := Tryz.isAgg4
 z4 := Tryz.sizeOf4
 v4 := Tryz.zeroValue4
 t5 := Tryz.underlying5
 a5 := Tryz.isAgg5
 z5 := Tryz.sizeOf5
 v5 := Tryz.zeroValue5
 t9 := Tryz.underlying9
 a9 := Tryz.isAgg9
 z9 := Tryz.sizeOf9
 v9 := Tryz.zeroValue9
 t46 := Tryz.underlying135
 a46 := Tryz.isAgg135
 z46 := Tryz.sizeOf135
 v46 := Tryz.zeroValue135
 t51 := Tryz.underlying160
 a51 := Tryz.isAgg160
 z51 := Tryz.sizeOf160
 v51 := Tryz.zeroValue160
 t146 := Tryz.underlying168
 a146 := Tryz.isAgg168
 z146 := Tryz.sizeOf168
 v146 := Tryz.zeroValue168
 g1 := by kernel_rfl
 i3 := by kernel_rfl
 i4 := by kernel_rfl
 i5 := by kernel_rfl
 i9 := by kernel_rfl
 i46 := by kernel_rfl
 i51 := by kernel_rfl
 i146 := by kernel_rfl
 m1 := by kernel_rfl
 s1_3 := fun w h => Go.Proofs.cell_of_shapedOpen_int (zero := #[.int .i64 0]) (t := 3) h (of_decide_eq_true (by kernel_rfl)) (by kernel_rfl) rfl (by kernel_rfl) (by kernel_rfl) Tryz.underlying3 }
def ML (w : World) : Prop := ∃ m, w.cell? ⟨0, 0, none⟩ = some (.int .i64 m)
theorem ML.at_ {w : World} (h : w.ShapedOpen Tryz.prog) : ML w := sh_laysM144.s1_3 w h
theorem ML.keep {w w' : World} (h : ML w) (hb : Go.RowKit.Below w.heap.size w w') : ML w' := by
 obtain ⟨m, hm⟩ := h
 exact ⟨m, (hb.cell (p := ⟨0, 0, none⟩) (World.block_lt_of_cell? w _ hm)).trans hm⟩
theorem contains_any (s sub : ByteArray) (w : World) (hs : s.size < 4294967281) (h : ML w) :
 Calls Tryz.prog 46 #[.string s, .string sub] w fun e w' => e = .returned (.bool (Lib.contains s.data.toList sub.data.toList)) ∧ w' = w := by
 obtain ⟨m, hm⟩ := h
 exact sh_strings_Contains s sub m w hs hm
end Go.Proofs.YthihaeobkoiljaaGreat
namespace Go.Proofs.YthihaeobkoiljaaGreat
def letterI (c : Int) : Bool := (decide (97 ≤ c) && decide (c ≤ 122)) || (decide (65 ≤ c) && decide (c ≤ 90))
def chrI (c : Int) : Bool := letterI c || c == 95 || (decide (48 ≤ c) && decide (c ≤ 57))
def byteI (s : ByteArray) (k : Nat) : Int := if h : k < s.size then ((s[k]'h).toNat : Int) else 0
theorem byteI_at {s : ByteArray} {k : Nat} (h : k < s.size) : byteI s k = ((s[k]'h).toNat : Int) := by simp [byteI, h]
end Go.Proofs.YthihaeobkoiljaaGreat
namespace Go.Proofs.YthihaeobkoiljaaGreat
open Go.RowKit
def wordL : List UInt8 := [32, 98, 114, 101, 97, 107, 32, 99, 111, 117, 110, 116, 32, 101, 108, 115, 101, 32, 101, 120, 116, 101, 114, 110, 32, 101, 120, 116, 114, 97, 32, 102, 110, 32, 105, 102, 32, 105, 110, 116, 32, 108, 111, 110, 103, 32, 112, 117, 116, 32, 114, 101, 116, 117, 114, 110, 32, 115, 116, 97, 116, 105, 99, 32, 115, 116, 114, 117, 99, 116, 32, 119, 104, 105, 108, 101, 32]
def reserved (s : ByteArray) : Bool := Lib.contains wordL (32 :: (s.data.toList ++ [32]))
def nameOf (s : ByteArray) : Bool := decide (1 ≤ s.size) && decide (s.size ≤ 16) && letterI (byteI s 0) && (List.range s.size).all (fun k => k == 0 || chrI (byteI s k)) && !reserved s
theorem letter_any (c : Int) (w : World) : Calls Tryz.prog 45 #[.int .u8 c] w fun e w' => e = .returned (.bool (letterI c)) ∧ w' = w := by
 go_enter Tryz.func45, Tryz.ntmps45
 go_wp2
 all_goals go_ret
 all_goals refine ⟨?_, rfl⟩
 all_goals
  have e1 : letterI c = ((decide (97 ≤ c) && decide (c ≤ 122)) || (decide (65 ≤ c) && decide (c ≤ 90))) := rfl
  rw [e1]
  simp_all <;> (try omega)
theorem name_false {s : ByteArray} (h : nameOf s = true) : 1 ≤ s.size ∧ s.size ≤ 16 ∧ letterI (byteI s 0) = true ∧ (∀ k, 1 ≤ k → k < s.size → chrI (byteI s k) = true) ∧ reserved s = false := by
 simp only [nameOf, Bool.and_eq_true, decide_eq_true_eq, List.all_eq_true, List.mem_range, Bool.or_eq_true, beq_iff_eq, Bool.not_eq_true'] at h
 obtain ⟨⟨⟨⟨h1, h2⟩, h3⟩, h4⟩, h5⟩ := h
 exact ⟨h1, h2, h3, fun k hk hs => by rcases h4 k hs with h | h <;> first | omega | exact h, h5⟩
theorem name_of {s : ByteArray} (h1 : 1 ≤ s.size) (h2 : s.size ≤ 16) (h3 : letterI (byteI s 0) = true) (h4 : ∀ k, 1 ≤ k → k < s.size → chrI (byteI s k) = true) : nameOf s = !reserved s := by
 have : (List.range s.size).all (fun k => k == 0 || chrI (byteI s k)) = true := by
  rw [List.all_eq_true]
  intro k hk
  rw [List.mem_range] at hk
  by_cases h0 : k = 0
  ·simp [h0]
  ·simp [h4 k (by omega) hk]
 simp [nameOf, h1, h2, h3, this]
theorem name_no {s : ByteArray} (h : ¬(1 ≤ s.size ∧ s.size ≤ 16 ∧ letterI (byteI s 0) = true ∧ ∀ k, 1 ≤ k → k < s.size → chrI (byteI s k) = true)) : nameOf s = false := by
 rcases hn : nameOf s with _ | _
 ·rfl
 ·obtain ⟨a, b, c, d, _⟩ := name_false hn
  exact absurd ⟨a, b, c, d⟩ h
theorem chr_split (c : Int) : chrI c = (letterI c || c == 95 || (decide (48 ≤ c) && decide (c ≤ 57))) := rfl
def NameL (s : ByteArray) (i : Value) : Prop := ∃ k : Nat, i = .int .i64 k ∧ 1 ≤ k ∧ k ≤ s.size ∧ ∀ j, 1 ≤ j → j < k → chrI (byteI s j) = true
theorem isName_any (s : ByteArray) (w : World) (hm : ML w) : Calls Tryz.prog 18 #[.string s] w fun e w' => e = .returned (.bool (nameOf s)) ∧ w' = w := by
 by_cases h1 : 1 ≤ s.size
 ·by_cases h2 : s.size ≤ 16
  ·have e0 := byteI_at (s := s) (k := 0) h1
   have d0 : 0 < s.size := h1
   have d1 : ¬ ((s.size : Int) < 1) := by omega
   have d2 : ¬ (16 < (s.size : Int)) := by omega
   rcases hl : letterI (byteI s 0) with _ | _
   ·have hn : nameOf s = false := name_no (by rintro ⟨-, -, h3, -⟩; rw [hl] at h3; cases h3)
    have hl0 : letterI ((s[0]'h1).toNat : Int) = false := by rw [← e0]; exact hl
    clear hl
    go_enter Tryz.func18, Tryz.ntmps18
    go_wp2_with (first
     | (go_at_call 45; refine (letter_any _ _).mono ?_; rintro e w' ⟨rfl, hw⟩; subst hw))
    go_ret
    first | exact ⟨rfl, rfl⟩ | (rw [hn]; exact ⟨rfl, rfl⟩)
   ·have hl0 : letterI ((s[0]'h1).toNat : Int) = true := by rw [← e0]; exact hl
    go_enter Tryz.func18, Tryz.ntmps18
    go_wp2_with (first
     | (go_at_call 45; refine (letter_any _ _).mono ?_; rintro e w' ⟨rfl, hw⟩; subst hw))
    obtain ⟨wo, rfl⟩ : ∃ wo : World, wo = w' := ⟨_, rfl⟩
    go_loopw [2, 4, 5] (fun _ i _ wr => NameL s i ∧ wr = wo) (fun _ i _ _ => s.size - (intOf i).toNat)
    case atStart => exact ⟨⟨1, rfl, Nat.le_refl _, h1, fun j _ h => absurd h (by omega)⟩, rfl⟩
    case round =>
     obtain ⟨⟨k, rfl, hk1, hk2, hg⟩, rfl⟩ := hrel
     by_cases hlt : k < s.size
     ·have hi : (k : Int) < (s.size : Int) := by omega
      have hb := byteI_at hlt
      go_wp2_with (first
       | (go_at_call 45; refine (letter_any _ _).mono ?_; rintro e w' ⟨rfl, hw⟩; subst hw))
      all_goals first
       | (go_ret
          rw [name_no (by
           rintro ⟨-, -, -, h4⟩
           have h4k := h4 k hk1 hlt
           rw [hb, chr_split] at h4k
           simp_all
           try omega)]
          exact ⟨rfl, rfl⟩)
       | (have hc : chrI (byteI s k) = true := by
           rw [hb, chr_split]
           simp_all
           try omega
          go_roundw
          case measure => simp [intOf]; omega
          case rel => exact ⟨⟨k + 1, by go_num, by omega, by omega, fun j h1 h2 => by
           rcases Nat.lt_or_ge j k with h | h
           ·exact hg j h1 h
           ·rw [show j = k by omega]
            exact hc⟩, by first | trivial | rfl⟩)
     ·have hi : (s.size : Int) ≤ (k : Int) := by omega
      go_wp2_with (first
       | (go_at_call 46; refine (contains_any _ _ _ (by decide) (by assumption)).mono ?_; rintro e w' ⟨rfl, hw⟩; subst hw))
      go_ret
      rw [name_of h1 h2 hl (fun j a b => hg j a (by omega)), reserved]
      exact ⟨rfl, rfl⟩
  ·have hn : nameOf s = false := name_no (by rintro ⟨-, h2', -⟩; exact h2 h2')
   have d1 : ¬ ((s.size : Int) < 1) := by omega
   have d2 : 16 < (s.size : Int) := by omega
   go_enter Tryz.func18, Tryz.ntmps18
   go_wp2
   go_ret
   first | exact ⟨rfl, rfl⟩ | (rw [hn]; exact ⟨rfl, rfl⟩)
 ·have hn : nameOf s = false := name_no (by rintro ⟨h1', -⟩; exact h1 h1')
  have d1 : (s.size : Int) < 1 := by omega
  go_enter Tryz.func18, Tryz.ntmps18
  go_wp2
  go_ret
  first | exact ⟨rfl, rfl⟩ | (rw [hn]; exact ⟨rfl, rfl⟩)
end Go.Proofs.YthihaeobkoiljaaGreat
namespace Go.Proofs.YthihaeobkoiljaaGreat
open Go.RowKit
open Go.Maps (Keyed)
open Go.ChangeMaps
def MapIs (P : Program) (k : TypeId) (w : World) (b : Nat) (g : Value → Option Value) : Prop :=
 ∃ es clock, w.heap[b]? = some (.map es clock) ∧ (∀ e ∈ es.toList, ∃ l, keyOf P k e.key = some l) ∧ (es.toList.Pairwise fun e e' => e.key ≠ e'.key) ∧ ∀ v u, g v = some u ↔ ∃ e ∈ es.toList, e.key = v ∧ e.val = u
open Classical in
noncomputable def gput (g : Value → Option Value) (k u : Value) : Value → Option Value := fun v => if v = k then some u else g v
theorem gput_same (g : Value → Option Value) (k u : Value) : gput g k u k = some u := by unfold gput; rw [if_pos rfl]
theorem gput_other (g : Value → Option Value) (k u v : Value) (h : v ≠ k) : gput g k u v = g v := by unfold gput; rw [if_neg h]
section
variable {P : Program} {k : TypeId} {w : World} {b : Nat} {g : Value → Option Value}
theorem MapIs.made (P : Program) (k : TypeId) (w : World) : MapIs P k (w.alloc (.map #[] 0)) w.heap.size (fun _ => none) :=
 ⟨#[], 0, heap_alloc_new w _, by simp, by simp, by simp⟩
theorem MapIs.keep {w' : World} (h : MapIs P k w b g) (he : w'.heap[b]? = w.heap[b]?) : MapIs P k w' b g := by
 obtain ⟨es, c, h1, h2⟩ := h
 exact ⟨es, c, he.trans h1, h2⟩
theorem MapIs.lt (h : MapIs P k w b g) : b < w.heap.size := by
 obtain ⟨es, c, h1, _⟩ := h
 rcases Nat.lt_or_ge b w.heap.size with hlt | hge
 ·exact hlt
 ·rw [Array.getElem?_eq_none hge] at h1; cases h1
theorem MapIs.alloc (h : MapIs P k w b g) (o : Obj) : MapIs P k (w.alloc o) b g := h.keep (Below.heap_alloc w o b h.lt)
theorem MapIs.setCell (h : MapIs P k w b g) {a : Addr} (ha : b ≠ a.block) (u : Value) : MapIs P k (w.setCell a u) b g := h.keep (Below.heap_setCell w a u b ha)
theorem MapIs.drewN (h : MapIs P k w b g) (n : Nat) : MapIs P k (w.drewN n) b g := h
theorem MapIs.below {w' : World} (h : MapIs P k w b g) (hb : Below w.heap.size w w') : MapIs P k w' b g := h.keep (hb.block b h.lt)
theorem MapIs.lookup {t e : TypeId} (h : MapIs P k w b g) (K : Keyed P k) (ht : P.underlying t = some (.map k e)) {z : Value} (hz : (zeroValue e).run P w = .ok z w) {key : Value} {kl : Lit} (hkey : keyOf P k key = some kl) :
 (Instr.lookup t (.map (some b)) key false).run P w = .ok ((g key).getD z) w := by
 obtain ⟨es, c, h1, h2, h3, h4⟩ := h
 have hc := K.check w es.isEmpty hkey
 rcases K.find w hkey es.toList h2 with ⟨hf, hn⟩ | ⟨j, e0, hf, hj, hk⟩
 ·have hg : g key = none := by
   cases hgk : g key with
   | none => rfl
   | some u =>
    obtain ⟨e1, he1, hk1, _⟩ := (h4 key u).1 hgk
    exact absurd hk1 (hn e1 he1)
  simp [Instr.lookup, run_underlying ht, Sem.run, getObj, h1, hc, hf, hz, hg]
 ·have hg : g key = some e0.val := (h4 key e0.val).2 ⟨e0, List.mem_of_getElem? hj, hk, rfl⟩
  simp [Instr.lookup, run_underlying ht, Sem.run, getObj, h1, hc, hf, hg]
theorem gput_iff (g : Value → Option Value) (key val v u : Value) : gput g key val v = some u ↔ (v = key ∧ val = u) ∨ (v ≠ key ∧ g v = some u) := by
 by_cases hv : v = key
 ·subst hv; rw [gput_same]; simp
 ·rw [gput_other _ _ _ _ hv]; simp [hv]
theorem mem_modify {es : Array MapEntry} {j : Nat} {e0 : MapEntry} {f : MapEntry → MapEntry} (hj : es[j]? = some e0) (e1 : MapEntry) : e1 ∈ (es.modify j f).toList ↔ (∃ i, i ≠ j ∧ es[i]? = some e1) ∨ e1 = f e0 := by
 rw [List.mem_iff_getElem?]
 constructor
 ·rintro ⟨i, hi⟩
  rw [Array.getElem?_toList, Array.getElem?_modify] at hi
  by_cases hij : j = i
  ·subst hij; rw [if_pos rfl, hj] at hi; simp at hi; exact .inr hi.symm
  ·rw [if_neg hij] at hi; exact .inl ⟨i, fun e => hij e.symm, hi⟩
 ·rintro (⟨i, hi, he⟩ | rfl)
  ·exact ⟨i, by rw [Array.getElem?_toList, Array.getElem?_modify, if_neg (fun e => hi e.symm)]; exact he⟩
  ·exact ⟨j, by rw [Array.getElem?_toList, Array.getElem?_modify, if_pos rfl, hj]; rfl⟩
theorem MapIs.update {t e : TypeId} (h : MapIs P k w b g) (K : Keyed P k) (ht : P.underlying t = some (.map k e)) {key val : Value} {kl : Lit} (hkey : keyOf P k key = some kl) :
 ∃ w', (Instr.mapUpdate t (.map (some b)) key val).run P w = .ok () w' ∧ MapIs P k w' b (gput g key val) ∧ w.grownBy w' (some b) := by
 obtain ⟨es, c, h1, h2, h3, h4⟩ := h
 have hlt : b < w.heap.size := MapIs.lt (P := P) (k := k) (g := g) ⟨es, c, h1, h2, h3, h4⟩
 have hc := K.check w false hkey
 have hset : ∀ o : Obj, (w.heap.setIfInBounds b o)[b]? = some o := fun o => by rw [Array.getElem?_setIfInBounds]; simp [hlt]
 have hoth : ∀ (o : Obj) i, some i ≠ some b → (w.heap.setIfInBounds b o)[i]? = w.heap[i]? := fun o i hi => by
  rw [Array.getElem?_setIfInBounds, if_neg (fun e => hi (by rw [e]))]
 rcases K.find w hkey es.toList h2 with ⟨hf, hn⟩ | ⟨j, e0, hf, hj, hk⟩
 ·refine ⟨{ w with heap := w.heap.setIfInBounds b (.map (es.push { key := key, val := val, born := c }) (c + 1)) }, ?_, ⟨_, _, hset _, ?_, ?_, ?_⟩, ⟨rfl, rfl, rfl, by simp, fun i _ hi => hoth _ i hi⟩⟩
  ·simp [Instr.mapUpdate, run_underlying ht, Sem.run, getObj, setObj, h1, hc, hf]
  ·intro e he
   rw [Array.toList_push, List.mem_append, List.mem_singleton] at he
   rcases he with he | rfl
   ·exact h2 e he
   ·exact ⟨kl, hkey⟩
  ·rw [Array.toList_push, List.pairwise_append]
   refine ⟨h3, by simp, fun a ha b' hb' => ?_⟩
   rw [List.mem_singleton] at hb'
   subst hb'
   exact hn a ha
  ·intro v u
   rw [gput_iff, Array.toList_push]
   constructor
   ·rintro (⟨rfl, rfl⟩ | ⟨hv, hg⟩)
    ·exact ⟨{ key := v, val := val, born := c }, by simp, rfl, rfl⟩
    ·obtain ⟨e1, he1, hk1, hu1⟩ := (h4 v u).1 hg
     exact ⟨e1, by simp [he1], hk1, hu1⟩
   ·rintro ⟨e1, he1, hk1, hu1⟩
    rw [List.mem_append, List.mem_singleton] at he1
    rcases he1 with he1 | rfl
    ·exact .inr ⟨fun ev => hn e1 he1 (hk1.trans ev), (h4 v u).2 ⟨e1, he1, hk1, hu1⟩⟩
    ·exact .inl ⟨hk1.symm, hu1⟩
 ·have hjl : j < es.size := by
   have := (List.getElem?_eq_some_iff.1 hj).1
   simpa using this
  have hge : es[j]? = some e0 := by rw [← Array.getElem?_toList]; exact hj
  have hst := K.stays w hkey
  have hkey0 : ((es[j]?).map (·.key)).getD key = key := by rw [hge]; simpa using hk
  refine ⟨{ w with heap := w.heap.setIfInBounds b (.map (es.modify j fun e => { e with key := key, val := val }) c) }, ?_, ⟨_, _, hset _, ?_, ?_, ?_⟩, ⟨rfl, rfl, rfl, by simp, fun i _ hi => hoth _ i hi⟩⟩
  ·simp [Instr.mapUpdate, run_underlying ht, Sem.run, getObj, setObj, h1, hc, hf, hkey0, hst]
  ·intro e1 he1
   rcases (mem_modify hge e1).1 he1 with ⟨i, hi, he⟩ | rfl
   ·exact h2 e1 (List.mem_of_getElem? (i := i) (by rw [Array.getElem?_toList]; exact he))
   ·exact ⟨kl, hkey⟩
  ·have hm : (es.modify j fun e => { e with key := key, val := val }).toList.map (·.key) = es.toList.map (·.key) := by
    apply List.ext_getElem?
    intro i
    rw [List.getElem?_map, List.getElem?_map, Array.getElem?_toList, Array.getElem?_toList, Array.getElem?_modify]
    by_cases hij : j = i
    ·subst hij; rw [if_pos rfl, hge]; simp [hk]
    ·rw [if_neg hij]
   have h3' : (es.toList.map (·.key)).Pairwise (· ≠ ·) := List.pairwise_map.2 h3
   rw [← hm] at h3'
   exact List.pairwise_map.1 h3'
  ·intro v u
   rw [gput_iff]
   constructor
   ·rintro (⟨rfl, rfl⟩ | ⟨hv, hg⟩)
    ·exact ⟨_, (mem_modify hge _).2 (.inr rfl), rfl, rfl⟩
    ·obtain ⟨e1, he1, hk1, hu1⟩ := (h4 v u).1 hg
     obtain ⟨i, hi⟩ := List.mem_iff_getElem?.1 he1
     rw [Array.getElem?_toList] at hi
     refine ⟨e1, (mem_modify hge _).2 (.inl ⟨i, fun hij => ?_, hi⟩), hk1, hu1⟩
     subst hij
     rw [hge] at hi
     injection hi with hi
     subst hi
     exact hv (hk1.symm.trans hk)
   ·rintro ⟨e1, he1, hk1, hu1⟩
    rcases (mem_modify hge e1).1 he1 with ⟨i, hi, he⟩ | rfl
    ·refine .inr ⟨fun ev => ?_, (h4 v u).2 ⟨e1, List.mem_of_getElem? (i := i) (by rw [Array.getElem?_toList]; exact he), hk1, hu1⟩⟩
     have hil : i < es.toList.length := by
      have := (Array.getElem?_eq_some_iff.1 he).1
      simpa using this
     have hp := List.pairwise_iff_getElem.1 h3
     have e1i : es.toList[i] = e1 := by
      have := (Array.getElem?_eq_some_iff.1 he).2
      simpa using this
     have e1j : es.toList[j]'(by simpa using hjl) = e0 := by
      have := (Array.getElem?_eq_some_iff.1 hge).2
      simpa using this
     rcases Nat.lt_or_gt_of_ne hi with hlt' | hgt'
     ·exact hp i j hil (by simpa using hjl) hlt' (by rw [e1i, e1j, hk1, hk, ev])
     ·exact hp j i (by simpa using hjl) hil hgt' (by rw [e1i, e1j, hk1, hk, ev])
    ·exact .inl ⟨hk1.symm, hu1⟩
end
theorem wpList_mapUpdate_is {P : Program} (w : World) {ops : Array Oper} {rest : List Oper} {o : Oper} {a : Act} {Q : Exit → Act → World → Prop}
 (hg : o.guard = none) (m x v : Operand) (t : TypeId) (hop : o.op = Op.mapUpdate t m x v)
 (k e : TypeId) (K : Keyed P k) (ht : P.underlying t = some (.map k e)) (b : Nat) (g : Value → Option Value)
 (hm : a.eval m = .map (some b)) (hown : MapIs P k w b g) (key val : Value) (kl : Lit) (hx : a.eval x = key) (hv : a.eval v = val) (hkey : keyOf P k key = some kl)
 (hK : ∀ w', MapIs P k w' b (gput g key val) → w.grownBy w' (some b) → wpList P ops Q rest (a.put o.dst undef) w') :
 wpList P ops Q (o :: rest) a w := by
 refine wpList_plain hg fun K' hK' => ?_
 obtain ⟨w', hrun, r1, r2⟩ := hown.update (val := val) K ht hkey
 unfold Oper.wp
 simp [execOp, hop, hm, hx, hv, hrun, Result.andThen]
 exact hK' _ _ (hK w' r1 r2)
end Go.Proofs.YthihaeobkoiljaaGreat
