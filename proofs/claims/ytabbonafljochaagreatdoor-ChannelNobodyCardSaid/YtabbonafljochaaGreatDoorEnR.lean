/- The engine, part R: from what a function does over the whole memory, read only, to the row that says it returns true. -/
import Derived.Test.YtabbonafljochaaGreatDoorEnJ
import Derived.ProofKit
namespace Go.Sl
open Go.ChangeShapes Go.WideShapes Go.RowKit
variable {P : Program}

theorem sat_all (w : World) : Sat [] (mem w) w := ⟨[], trivial, by simp [Apart], le.refl _, by simp⟩
theorem below_of {W W' : World} {Γ : List HProp} (h : Sat Γ (mem W) W') (hs : Same W W') : Below W.heap.size W W' := by
  obtain ⟨_, _, _, hl, _⟩ := h
  refine ⟨hs.os, hs.tape, hs.output, hs.size, fun k hk => ?_⟩
  have h1 : mem W k = some W.heap[k] := by simp [mem, hk]
  have h2 := hl k _ h1
  rw [show W'.heap[k]? = mem W' k from rfl, h2, ← h1]; rfl

/-- A law's walk over the memory as it lies: it returns true, and below the heap's old size nothing has turned. -/
theorem law_calls {f : FuncId} {args : List Value} {W : World} (h : FnOk P f args [] (mem W) (fun v _ => v = .bool true)) :
    Calls P f args.toArray W (fun e W' => e = .returned (.bool true) ∧ Below W.heap.size W W') :=
  (h W (sat_all W)).mono fun e W' ⟨v, Γ', he, hv, hs, hm⟩ => by
    subst hv
    exact ⟨he, below_of hs hm⟩

section row
variable {H : Type} {enc : TypeId × Value → H}
theorem trodAll_below {W W' : World} (hl : laidOutB P = true) (hb : Below W.heap.size W W') : ∀ {ts : List TypeId} {vs : List Value} {ds : List (DataW H)} {ps : List MemPlace},
    (∀ t ∈ ts, P.readableRec t = true ∧ t < P.types.size) → (∀ x ∈ ps, x.block < W.heap.size) → DataW.TrodAll enc P W 0 (fun _ => true) true ts vs ds ps →
    DataW.TrodAll enc P W' 0 (fun b => decide (b < W.heap.size)) true ts vs ds ps
  | [], _, _, _, _, _, h => by
    obtain ⟨rfl, rfl, rfl⟩ := trodAll_nil h
    exact rfl
  | t :: ts, _, _, _, ht, hp, h => by
    obtain ⟨v, vs, d, ds, p, q, rfl, rfl, rfl, h1, h2⟩ := trodAll_cons h
    exact ⟨p, q, Below.trod hl (ht t (by simp)).1 (ht t (by simp)).2 h1 hb (fun x hx => hp x (by simp [hx])), trodAll_below hl hb (fun u hu => ht u (by simp [hu])) (fun x hx => hp x (by simp [hx])) h2, rfl⟩

/-- What a law's row says behind the call: true; the arguments read as they did. -/
theorem law_post {f : Func} {s : ChangeSpec} {apart : Bool} {W W' : World} {args : Array Value} {ds gs : List (DataW H)} {before : List MemPlace} {bt : TypeId}
    (hl : laidOutB P = true) (hp : (f.params.toList.all fun t => P.readableRec t && Nat.blt t P.types.size) = true) (hr : f.resultTypes = #[bt]) (hbt : P.underlying bt = some .bool) (hv : s.vars = [])
    (hW : DataW.Whole enc P f.params.toList s.vars apart W args.toList ds gs before) (hfn : s.fn H (ds ++ gs) = { results := [.lit (.bool true)], args := ds }) (hB : Below W.heap.size W W') :
    s.post enc P f apart true false false W args (.bool true) W' := by
  have hlt := hW.lt
  obtain ⟨p, q, hA, hV, rfl, hfz, hnd⟩ := id hW
  rw [hv] at hV
  obtain ⟨rfl, rfl⟩ := trodVars_none hV
  have hps : ∀ t ∈ f.params.toList, P.readableRec t = true ∧ t < P.types.size := fun t ht => by
    have := List.all_eq_true.1 hp t ht
    simpa using this
  refine ⟨ds, [], p ++ [], [], p, [], hW, ?_, ?_, ?_, hB.frame _, fun h => by cases h⟩
  · rw [hfn, hr]; exact trodAll_mk1 (shut_bool hbt true)
  · rw [hfn]; exact trodAll_below hl hB hps (fun x hx => hlt x (by simp [hx])) hA
  · rw [hfn, hv]; exact rfl
end row
end Go.Sl
