/- The row of a law: what was handed in reads as it did. -/
import Derived.Test.YtpojdgeginigjaaAr21
import Derived.OpenShut
import Derived.Carry
import Derived.ChangeOld
set_option linter.unusedSimpArgs false
set_option linter.unusedVariables false
namespace Go.Ar
open Go.RowKit Go.WideShapes Go.ChangeShapes
variable {Hd : Type} {enc : TypeId × Value → Hd} {P : Program}

theorem trodAll_below (hl : laidOutB P = true) {W W' : World} (hb : Below W.heap.size W W') : ∀ (ts : List TypeId) (vs : List Value) (ds : List (DataW Hd)) (ps : List MemPlace),
    (∀ t ∈ ts, P.readableRec t = true ∧ t < P.types.size) → DataW.TrodAll enc P W 0 (fun _ => true) true ts vs ds ps → DataW.TrodAll enc P W' 0 (fun b => decide (b < W.heap.size)) true ts vs ds ps
  | [], vs, ds, ps, _, h => by
    obtain ⟨rfl, rfl, rfl⟩ := trodAll_nil h
    rfl
  | t :: ts, vs, ds, ps, ht, h => by
    obtain ⟨v, vs', d, ds', p, q, rfl, rfl, rfl, h1, h2⟩ := trodAll_cons h
    refine trodAll_cons_mk (Below.trod hl (ht t (by simp)).1 (ht t (by simp)).2 h1 hb ?_) (trodAll_below hl hb ts vs' ds' q (fun u hu => ht u (by simp [hu])) h2)
    obtain ⟨m, hm⟩ := h1
    exact DataW.trod_lt m _ _ _ hm

/-- What a run of the abstract interpreter says, as the row asks it. -/
theorem walk_of (hm : P.follows .mixedOrders = true) {E : Env} (hE : EnvOk P E) {g : Nat} {us : List V} {H H' : Heap} (h : callL E (.f g) us H = some (.bool true, H')) {args : Array Value} {W : World} {ρ : Rho}
    (hS : Sim P W.heap.size W ρ H [] W) (hR : RL ρ us args.toList) : Calls P g args W fun e W' => e = .returned (.bool true) ∧ Below W.heap.size W W' := by
  refine (calls_of hm hE h hS hR).mono fun e W' hp => ?_
  obtain ⟨v, rfl, ρ', hv, _, hS'⟩ := hp
  rw [hv.bool_inv]
  exact ⟨rfl, hS'.low⟩

def yesb : Option (V × Heap) → Bool | some (.bool true, _) => true | _ => false
theorem yesb_of {r : Option (V × Heap)} (h : yesb r = true) : ∃ H', r = some (.bool true, H') := by
  unfold yesb at h
  split at h
  · exact ⟨_, rfl⟩
  · cases h
theorem okWide_cell {W : World} {r : Reach} {b0 : Nat} {t : TypeId} {v : Value} (h : Value.okWide P W r b0 t v) (hs : (match P.underlying t with | some (.struct _) | some (.array _ _) => false | _ => true) = true) : Cell.okWide P W r b0 t v := by
  unfold Value.okWide at h
  split at h <;> simp_all
end Go.Ar
