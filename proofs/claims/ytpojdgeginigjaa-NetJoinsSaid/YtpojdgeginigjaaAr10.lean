/- Each operation but a call: what the abstract run answers, the machine's operation answers. Sixth part: maps; all operations together. -/
import Derived.Test.YtpojdgeginigjaaAr9
set_option linter.unusedSimpArgs false
set_option linter.unusedVariables false
namespace Go.Ar
open Go.RowKit
variable {P : Program} {B0 : Nat} {w0 : World} {ρ : Rho} {H : Heap} {D : List Nat} {w : World} {nt : Nat} {τ : Nat → V} {a : Act}

theorem lk_of {t : TypeId} {z : V} (h : lk P t = some z) (ρ : Rho) : ∃ v, (∀ w, (zeroValue t).run P w = .ok v w) ∧ R ρ z v := by
  unfold lk at h
  split at h
  · rename_i i hi
    split at h
    · rename_i v hv
      split at h
      · cases h; exact ⟨v, tzero_run hi hv, absS_ok ρ v⟩
      · cases h
    · cases h
  · cases h

theorem mp_of (hS : Sim P B0 w0 ρ H D w) {k : Nat} {es : List (V × V)} (h : mpAt H k = some es) : H[k]? = some (.mp es) ∧ ∃ L en cl, ρ k = some L ∧ w.heap[L.blk]? = some (.map en cl) ∧ B0 ≤ L.blk ∧ MapOk ρ es en cl := by
  unfold mpAt at h
  split at h
  · rename_i es' hk
    cases h
    obtain ⟨L, h1, en, cl, h2, h3, h4⟩ := hS.blk k _ hk rfl
    exact ⟨hk, L, en, cl, h1, h2, h3, h4⟩
  · cases h

theorem getMap_run {r : Nat} {es : Array MapEntry} {cl : Nat} (hb : w.heap[r]? = some (.map es cl)) : (getObj r).run P w = .ok (.map es cl) w := by simp [getObj, Sem.run, hb]
theorem setMap_run {r : Nat} {es : Array MapEntry} {cl : Nat} (o : Obj) (hb : w.heap[r]? = some (.map es cl)) : (setObj r o).run P w = .ok () { w with heap := w.heap.setIfInBounds r o } := by simp [setObj, Sem.run, hb]

theorem op_lookup (hS : Sim P B0 w0 ρ H D w) {t kt et : TypeId} (hu : P.underlying t = some (.map kt et)) {kk : KK} (hk : keyOk P kt = some kk) {z : V} (hz : lk P et = some z) {m x : V} {m' x' : Value} (hm : R ρ m m') (hx : R ρ x x')
    {es : List (V × V)} (he : mapOf H m = some es) {r : Option (Nat × V)} (hf : keyf kk x es = some r) (ok : Bool) :
    ∃ v', (Instr.lookup t m' x' ok).run P w = .ok v' w ∧ R ρ (match r with | some (_, v) => cond ok (.tup [v, .bool true]) v | none => cond ok (.tup [z, .bool false]) z) v' := by
  unfold keyf at hf
  split at hf
  case isFalse => cases hf
  rename_i hw
  obtain ⟨zv, hzv, hzr⟩ := lk_of hz ρ
  have tupOk : ∀ (v : V) (v' : Value) (b : Bool), R ρ v v' → R ρ (.tup [v, .bool b]) (.tuple #[v', .bool b]) := fun v v' b h => R.ofTup (RL.cons h (RL.cons (R.bool b) (RL.nil _)))
  have key : ∃ en : Array MapEntry, ∃ cl, MapOk ρ es en cl ∧ ((m' = .map none ∧ en = #[]) ∨ ∃ mb, m' = .map (some mb) ∧ w.heap[mb]? = some (.map en cl)) := by
    cases hm <;> simp [mapOf] at he
    · subst he; exact ⟨#[], 0, ⟨rfl, rfl, fun i kv h => by simp at h⟩, .inl ⟨rfl, rfl⟩⟩
    · rename_i k L hL
      obtain ⟨_, L', en, cl, h1, h2, _, h4⟩ := mp_of hS he
      rw [hL] at h1; cases h1
      exact ⟨en, cl, h4, .inr ⟨_, rfl, h2⟩⟩
  obtain ⟨en, cl, hmo, hcase⟩ := key
  obtain ⟨r', h1, h2⟩ := findKey_ok hk hw hx w hmo hf
  have hc := checkKey_ok (P := P) hk hw hx en.isEmpty w
  have main : (Instr.lookup t m' x' ok).run P w = (match r' with
      | some (_, v) => .ok (if ok then .tuple #[v, .bool true] else v) w
      | none => .ok (if ok then .tuple #[zv, .bool false] else zv) w) := by
    rcases hcase with ⟨rfl, rfl⟩ | ⟨mb, rfl, hb⟩
    · simp only [Instr.lookup, Sem.run_bind, run_underlying hu, Result.andThen_ok, Sem.run_pure, hc, h1]
      cases r' <;> simp [hzv]
    · simp only [Instr.lookup, Sem.run_bind, run_underlying hu, Result.andThen_ok, Sem.run_pure, getMap_run hb, hc, h1]
      cases r' <;> simp [hzv]
  rw [main]
  cases r with
  | none =>
    obtain rfl := h2
    refine ⟨_, rfl, ?_⟩
    cases ok
    · exact hzr
    · exact tupOk _ _ _ hzr
  | some jv =>
    obtain ⟨j, v⟩ := jv
    obtain ⟨v', rfl, hv, _⟩ := h2
    refine ⟨_, rfl, ?_⟩
    cases ok
    · exact hv
    · exact tupOk _ _ _ hv

theorem heapSet {r : Nat} {o o' : Obj} (hb : w.heap[r]? = some o) : (w.heap.setIfInBounds r o')[r]? = some o' ∧ ∀ r', r' ≠ r → (w.heap.setIfInBounds r o')[r']? = w.heap[r']? := by
  have hlt : r < w.heap.size := (Array.getElem?_eq_some_iff.1 hb).1
  exact ⟨by simp [hlt], fun r' hne => by simp [Ne.symm hne]⟩
/-- The map's block turned. -/
theorem map_set (hS : Sim P B0 w0 ρ H D w) {k : Nat} {es : List (V × V)} (hk : H[k]? = some (.mp es)) {L : Loc} (hL : ρ k = some L) {en : Array MapEntry} {cl : Nat} (hb : w.heap[L.blk]? = some (.map en cl)) (hB : B0 ≤ L.blk)
    {es' : List (V × V)} {en' : Array MapEntry} {cl' : Nat} (hm : MapOk ρ es' en' cl') :
    (setObj L.blk (.map en' cl')).run P w = .ok () { w with heap := w.heap.setIfInBounds L.blk (.map en' cl') } ∧ Sim P B0 w0 ρ (H.set k (.mp es')) D { w with heap := w.heap.setIfInBounds L.blk (.map en' cl') } := by
  obtain ⟨h1, h2⟩ := heapSet (o' := .map en' cl') hb
  exact ⟨setMap_run _ hb, hS.mod hk rfl hL rfl rfl rfl (by simp) h2 fun _ => ⟨en', cl', h1, hB, hm⟩⟩

theorem MapOk.push {es : List (V × V)} {en : Array MapEntry} {cl : Nat} (h : MapOk ρ es en cl) {x v : V} {x' v' : Value} (hx : R ρ x x') (hv : R ρ v v') :
    MapOk ρ (es ++ [(x, v)]) (en.push { key := x', val := v', born := cl }) (cl + 1) := by
  obtain ⟨h1, h2, h3⟩ := h
  refine ⟨by simp [h1], by simp [h2], fun i kv hi => ?_⟩
  by_cases hlt : i < es.length
  · rw [List.getElem?_append_left hlt] at hi
    obtain ⟨e, a1, a2⟩ := h3 i kv hi
    exact ⟨e, by rw [Array.getElem?_push_lt (by omega)]; have := a1; rw [Array.getElem?_eq_getElem (by omega)] at this; exact this, a2⟩
  · rw [List.getElem?_append_right (by omega)] at hi
    have h0 : i - es.length = 0 := by
      by_cases h0 : i - es.length = 0
      · exact h0
      · rw [List.getElem?_eq_none (by simp; omega)] at hi; cases hi
    rw [h0] at hi; cases hi
    have : i = en.size := by omega
    subst this
    exact ⟨{ key := x', val := v', born := cl }, by simp, hx, hv, by show cl = en.size; omega⟩
theorem MapOk.set {es : List (V × V)} {en : Array MapEntry} {cl : Nat} (h : MapOk ρ es en cl) {j : Nat} {e : MapEntry} (he : en[j]? = some e) {x v : V} {f : MapEntry → MapEntry} (hx : R ρ x (f e).key) (hv : R ρ v (f e).val) (hb : (f e).born = e.born) :
    MapOk ρ (es.set j (x, v)) (en.modify j f) cl := by
  obtain ⟨h1, h2, h3⟩ := h
  refine ⟨by simp [h1], by simp [h2], fun i kv hi => ?_⟩
  rw [List.getElem?_set] at hi
  by_cases hij : j = i
  · subst hij
    simp only [if_pos] at hi
    split at hi
    · rename_i hlt
      cases hi
      obtain ⟨e', a1, _, _, a4⟩ := h3 j es[j] (List.getElem?_eq_getElem hlt)
      rw [he] at a1; cases a1
      exact ⟨f e, by rw [Array.getElem?_modify, if_pos rfl, he]; rfl, hx, hv, hb.trans a4⟩
    · cases hi
  · rw [if_neg hij] at hi
    obtain ⟨e', a1, a2⟩ := h3 i kv hi
    exact ⟨e', by rw [Array.getElem?_modify, if_neg hij]; exact a1, a2⟩

theorem stays {old new : Value} (h : Instr.sameBits 10000 old new = true) (w : World) : (Instr.keyThatStays old new).run P w = .ok new w := by
  simp [Instr.keyThatStays, h]

theorem op_mapupd (hS : Sim P B0 w0 ρ H D w) {t kt et : TypeId} (hu : P.underlying t = some (.map kt et)) {kk : KK} (hk : keyOk P kt = some kk) {k : Nat} {x v : V} {m' x' v' : Value} (hm : R ρ (.map k) m') (hx : R ρ x x') (hv : R ρ v v')
    {es : List (V × V)} (he : mpAt H k = some es) {r : Option (Nat × V)} (hf : keyf kk x es = some r) :
    ∃ w', (Instr.mapUpdate t m' x' v').run P w = .ok () w' ∧ Sim P B0 w0 ρ (H.set k (.mp (match r with | some (i, _) => es.set i (x, v) | none => es ++ [(x, v)]))) D w' := by
  unfold keyf at hf
  split at hf
  case isFalse => cases hf
  rename_i hw
  obtain ⟨hk0, L, en, cl, h1, h2, h3, h4⟩ := mp_of hS he
  cases hm with
  | map hL =>
    rw [hL] at h1; cases h1
    obtain ⟨r', f1, f2⟩ := findKey_ok hk hw hx w h4 hf
    have hc := checkKey_ok (P := P) hk hw hx false w
    cases r with
    | none =>
      obtain rfl := f2
      obtain ⟨s1, s2⟩ := map_set hS hk0 hL h2 h3 (h4.push hx hv)
      refine ⟨_, ?_, s2⟩
      simp only [Instr.mapUpdate, Sem.run_bind, run_underlying hu, Result.andThen_ok, getMap_run h2, hc, f1]
      exact s1
    | some jv =>
      obtain ⟨j, u⟩ := jv
      obtain ⟨u', rfl, hu', e, a1, a2, a3, a4⟩ := f2
      obtain ⟨s1, s2⟩ := map_set hS hk0 hL h2 h3 (h4.set (f := fun e => { e with key := x', val := v' }) a1 hx hv rfl)
      refine ⟨_, ?_, s2⟩
      simp only [Instr.mapUpdate, Sem.run_bind, run_underlying hu, Result.andThen_ok, getMap_run h2, hc, f1, a1, Option.map_some, Option.getD_some, stays a3]
      exact s1

theorem op_mapent (hS : Sim P B0 w0 ρ H D w) {t kt et : TypeId} (hu : P.underlying t = some (.map kt et)) {kk : KK} (hk : keyOk P kt = some kk) {z : V} (hz : lk P et = some z) {k : Nat} {x : V} {m' x' : Value} (hm : R ρ (.map k) m') (hx : R ρ x x')
    {es : List (V × V)} (he : mpAt H k = some es) {r : Option (Nat × V)} (hf : keyf kk x es = some r) :
    ∃ v' w', (Instr.mapEntry t m' x').run P w = .ok v' w' ∧ R ρ (match r with | some (i, v) => .tup [v, .int .i64 i] | none => .tup [z, .int .i64 es.length]) v' ∧
      Sim P B0 w0 ρ (H.set k (.mp (match r with | some (i, v) => es.set i (x, v) | none => es ++ [(x, z)]))) D w' := by
  unfold keyf at hf
  split at hf
  case isFalse => cases hf
  rename_i hw
  obtain ⟨hk0, L, en, cl, h1, h2, h3, h4⟩ := mp_of hS he
  obtain ⟨zv, hzv, hzr⟩ := lk_of hz ρ
  have tupOk : ∀ (v : V) (v' : Value) (n : Nat), R ρ v v' → R ρ (.tup [v, .int .i64 n]) (.tuple #[v', goInt n]) := fun v v' n h => R.ofTup (RL.cons h (RL.cons (R.int _ _) (RL.nil _)))
  cases hm with
  | map hL =>
    rw [hL] at h1; cases h1
    obtain ⟨r', f1, f2⟩ := findKey_ok hk hw hx w h4 hf
    have hc := checkKey_ok (P := P) hk hw hx false w
    cases r with
    | none =>
      obtain rfl := f2
      obtain ⟨s1, s2⟩ := map_set hS hk0 hL h2 h3 (h4.push hx hzr)
      refine ⟨.tuple #[zv, goInt cl], _, ?_, ?_, s2⟩
      · simp only [Instr.mapEntry, Sem.run_bind, run_underlying hu, Result.andThen_ok, getMap_run h2, hc, f1, hzv]
        rw [s1]
        rfl
      · have := tupOk z zv es.length hzr; rw [← h4.2.1] at this ⊢; exact this
    | some jv =>
      obtain ⟨j, u⟩ := jv
      obtain ⟨u', rfl, hu', e, a1, a2, a3, a4⟩ := f2
      have hborn : e.born = j := by
        have hlt : j < es.length := by have := (Array.getElem?_eq_some_iff.1 a1).1; rw [h4.1] at this; exact this
        obtain ⟨e', b1, _, _, b4⟩ := h4.2.2 j es[j] (List.getElem?_eq_getElem hlt)
        rw [a1] at b1; cases b1; exact b4
      obtain ⟨s1, s2⟩ := map_set hS hk0 hL h2 h3 (h4.set (f := fun e => { e with key := x' }) a1 hx (show R ρ u e.val by rw [a2]; exact hu') rfl)
      refine ⟨.tuple #[u', goInt (j : Nat)], _, ?_, tupOk _ _ _ hu', s2⟩
      simp only [Instr.mapEntry, Sem.run_bind, run_underlying hu, Result.andThen_ok, getMap_run h2, hc, f1, a1, Option.map_some, Option.getD_some, stays a3]
      rw [s1]
      simp [hborn]

theorem op_entst (hS : Sim P B0 w0 ρ H D w) {t : TypeId} {k : Nat} {n : Int} {q : IntKind} {v : V} {m' v' : Value} (hm : R ρ (.map k) m') (hv : R ρ v v') {es : List (V × V)} (he : mpAt H k = some es) {e0 : V × V} (hn : es[n.toNat]? = some e0) (h0 : 0 ≤ n) :
    ∃ w', (Instr.entryStore t m' (.int q n) v').run P w = .ok () w' ∧ Sim P B0 w0 ρ (H.set k (.mp (es.set n.toNat (e0.1, v)))) D w' := by
  obtain ⟨hk0, L, en, cl, h1, h2, h3, h4⟩ := mp_of hS he
  cases hm with
  | map hL =>
    rw [hL] at h1; cases h1
    obtain ⟨e, a1, a2, a3, a4⟩ := h4.2.2 _ _ hn
    obtain ⟨s1, s2⟩ := map_set hS hk0 hL h2 h3 (h4.set (f := fun e => { e with val := v' }) a1 a2 hv rfl)
    refine ⟨_, ?_, s2⟩
    have hlt := (Array.getElem?_eq_some_iff.1 a1).1
    have hfi : en.findIdx? (fun e => (e.born : Int) == n) = some n.toNat := by
      rw [Array.findIdx?_eq_some_iff_getElem]
      refine ⟨hlt, ?_, fun j hj => ?_⟩
      · have : en[n.toNat] = e := (Array.getElem?_eq_some_iff.1 a1).2
        rw [this, a4]; simp; omega
      · have hje : j < es.length := by rw [← h4.1]; omega
        obtain ⟨e', b1, _, _, b4⟩ := h4.2.2 j es[j] (List.getElem?_eq_getElem hje)
        have : en[j] = e' := (Array.getElem?_eq_some_iff.1 b1).2
        rw [this, b4]; simp; omega
    simp only [Instr.entryStore, Sem.run_bind, getMap_run h2, Result.andThen_ok, asInt, asIntOf, Sem.run_pure, hfi]
    exact s1
end Go.Ar
