/- The engine, part S: what a law's arguments hold, out of their reading: facts about memory that is only read. -/
import Derived.Test.YtabbonafljochaaGreatDoorEnR
import Derived.ChangeArms
import Derived.SizedLaws
namespace Go.Sl
open Go.ChangeShapes Go.WideShapes Go.RowKit

theorem At.flatten {cs : List Value} {sz : Nat} : ∀ {els : List (List Value)} {o : Nat}, (∀ r ∈ els, r.length = sz) → (∀ i r, els[i]? = some r → At cs (o + i * sz) r) → At cs o els.flatten
  | [], o, _, _ => At.nil cs o
  | r :: els, o, hl, h => by
    have h0 : At cs o r := by have := h 0 r rfl; simpa using this
    have hr : r.length = sz := hl r (by simp)
    rw [List.flatten_cons]
    refine h0.append ?_
    rw [hr]
    refine At.flatten (fun q hq => hl q (by simp [hq])) (fun i q hq => ?_)
    have := h (i + 1) q (by simpa using hq)
    rwa [show o + (i + 1) * sz = o + sz + i * sz from by rw [Nat.add_mul, Nat.one_mul]; omega] at this
theorem At.ofFlatten {cs : List Value} {sz : Nat} {els : List (List Value)} {o i : Nat} {r : List Value} (hl : ∀ r ∈ els, r.length = sz) (h : At cs o els.flatten) (hr : els[i]? = some r) : At cs (o + i * sz) r := by
  induction els generalizing o i with
  | nil => simp at hr
  | cons q els ih =>
    have hq : q.length = sz := hl q (by simp)
    rw [List.flatten_cons] at h
    cases i with
    | zero =>
      simp at hr; subst hr
      have := h.sub (i := 0) (n := q.length)
      simpa using this
    | succ i =>
      have := h.drop (i := sz)
      rw [← hq, List.drop_left, hq] at this
      have := ih (fun r hr => hl r (by simp [hr])) this (by simpa using hr)
      rwa [show o + (i + 1) * sz = o + sz + i * sz from by rw [Nat.add_mul, Nat.one_mul]; omega]

section reads
variable {H : Type} {enc : TypeId × Value → H} {P : Program} {W : World} {t e : TypeId} {cs : List Value} {d : DataW H}
/-- The cells cs, of type t, are read as d; no string and no slice in it passes the form's own reach. -/
def Reads (enc : TypeId × Value → H) (P : Program) (W : World) (t : TypeId) (cs : List Value) (d : DataW H) : Prop :=
  (∃ fuel ps, DataW.trod enc P W 0 (fun _ => true) true fuel t cs = some (d, ps)) ∧ ∀ n ∈ d.weights P t, n ≤ reachBytes
theorem Reads.int {k : IntKind} (ht : P.underlying t = some (.int k)) (h : Reads enc P W t cs d) : ∃ n, cs = [.int k n] ∧ (Lit.int k n).wf = true := by
  obtain ⟨⟨fuel, ps, h⟩, _⟩ := h
  obtain ⟨n, h1, _, h2⟩ := DataW.trod_int ht h
  exact ⟨n, h1, h2⟩
theorem Reads.bool (ht : P.underlying t = some .bool) (h : Reads enc P W t cs d) : ∃ b, cs = [.bool b] := by
  obtain ⟨⟨fuel, ps, h⟩, _⟩ := h
  cases fuel with
  | zero => simp [DataW.trod] at h
  | succ n =>
    unfold DataW.trod at h
    rw [ht] at h
    split at h <;> simp_all
theorem Reads.str (ht : P.underlying t = some .string) (h : Reads enc P W t cs d) : ∃ l, cs = [Sl.str l] ∧ l.length ≤ reachBytes := by
  obtain ⟨⟨fuel, ps, h⟩, hw⟩ := h
  obtain ⟨s, h1, h2, _⟩ := DataW.trod_string ht h
  injection h2 with h2 _
  subst h2
  exact ⟨s.data.toList, by rw [h1], hw _ (by simp [DataW.weights])⟩
theorem Reads.len {fs : Array Field} (ht : P.underlying t = some (.struct fs)) (h : Reads enc P W t cs d) : cs.length = P.cellsOf t := by
  obtain ⟨⟨fuel, ps, h⟩, _⟩ := h
  obtain ⟨_, _, _, _, h3, _⟩ := DataW.trod_struct ht h
  exact h3
theorem Reads.field {fs : Array Field} (ht : P.underlying t = some (.struct fs)) (h : Reads enc P W t cs d) (i : Nat) {f : Field} (hf : fs[i]? = some f) :
    ∃ d' : DataW H, Reads enc P W f.type ((cs.drop f.offset).take (P.cellsOf f.type)) d' := by
  obtain ⟨⟨fuel, ps, h⟩, hw⟩ := h
  obtain ⟨xs, n, _, h2, _, h4, h5⟩ := DataW.trod_struct ht h
  injection h2 with h2 _
  subst h2
  have hi : i < xs.length := by rw [h4]; exact (Array.getElem?_eq_some_iff.1 hf).1
  have h6 := h5 i f hf
  rw [List.getElem?_eq_getElem hi] at h6
  refine ⟨xs[i].1, ⟨n, xs[i].2, h6⟩, fun m hm => hw m ?_⟩
  simp only [DataW.weights, ht]
  exact DataW.weights_mem_each (j := i) (t := f.type) (d := xs[i].1) (by simp [hf]) (by simp [hi]) m hm
theorem mem_weightsAll {e : TypeId} : ∀ {ds : List (DataW H)} {d : DataW H}, d ∈ ds → ∀ n ∈ d.weights P e, n ∈ DataW.weightsAll P e ds
  | x :: r, d, hd, n, hn => by
    rw [DataW.weightsAll, List.mem_append]
    rcases List.mem_cons.1 hd with rfl | hd
    · exact .inl hn
    · exact .inr (mem_weightsAll hd n hn)
theorem cells_at {a : Addr} {n : Nat} {row : List Value} (h : W.cells? 0 a n = some row) : row.length = n ∧ (0 < n → ∃ c e fz, a = ⟨a.block, a.off, none⟩ ∧ W.heap[a.block]? = some (.cells c e fz) ∧ At c.toList a.off row) := by
  simp only [World.cells?, Nat.zero_le, if_true] at h
  have hl : row.length = n := by simpa using mapM_some_length h
  have hg : ∀ j, j < n → W.cell? (a.add j) = row[j]? := fun j hj => mapM_some_get h j j (by simp [hj])
  refine ⟨hl, fun hn => ?_⟩
  have h0 := hg 0 hn
  rw [List.getElem?_eq_getElem (by omega)] at h0
  simp only [Addr.add, if_true, World.cell?] at h0
  split at h0
  · rename_i c e fz hb
    by_cases hs : a.spot.isSome = true
    · simp [hs] at h0
    · obtain ⟨b, o, s⟩ := a
      have hs : s = none := by simpa using hs
      subst hs
      refine ⟨c, e, fz, rfl, hb, fun j v hv => ?_⟩
      have hj : j < n := by have := (List.getElem?_eq_some_iff.1 hv).1; omega
      have := hg j hj
      rw [hv] at this
      have hadd : (Addr.mk b o none).add j = ⟨b, o + j, none⟩ := by
        unfold Addr.add; split
        · rename_i e; subst e; rfl
        · rfl
      rw [hadd] at this
      simp only [World.cell?] at this
      rw [hb] at this
      simpa using this
  · simp at h0
theorem Reads.slice {sz : Nat} (ht : P.underlying t = some (.slice e)) (hz : P.cellsOf e = sz) (h0 : 0 < sz) (h : Reads enc P W t cs d) :
    ∃ (v : Value) (els : List (List Value)), cs = [v] ∧ ro (mem W) v els.length els.flatten ∧ els.length * P.bytesOf e ≤ reachBytes ∧ ∀ r ∈ els, r.length = sz ∧ ∃ d' : DataW H, Reads enc P W e r d' := by
  obtain ⟨⟨fuel, ps, h⟩, hw⟩ := h
  rcases DataW.trod_slice ht h with ⟨h1, h2⟩ | ⟨a, len, cap, elems, rest, n, _, h1, h2, _, hl, hm, hlen, hel, _⟩
  · exact ⟨_, [], h1, ⟨_, _, rfl, fun h => absurd h (by simp)⟩, by simp, by simp⟩
  · injection h2 with h2 _
    subst h2
    have hrow : ∀ i : Nat, i < len → ∃ row y, W.cells? 0 (a.add (i * sz)) sz = some row ∧ DataW.trod enc P W 0 (fun _ => true) true n e row = some y ∧ elems[i]? = some y := fun i hi => by
      have := hel i hi
      rw [hz, List.getElem?_eq_getElem (by omega)] at this
      obtain ⟨row, h3, h4⟩ := Option.bind_eq_some_iff.1 this
      exact ⟨row, _, h3, h4, by rw [List.getElem?_eq_getElem (by omega)]⟩
    let els := (List.range len).map fun i => (W.cells? 0 (a.add (i * sz)) sz).getD []
    have hels : ∀ i r, els[i]? = some r → i < len ∧ W.cells? 0 (a.add (i * sz)) sz = some r := fun i r hr => by
      have hi : i < len := by have := (List.getElem?_eq_some_iff.1 hr).1; simpa [els] using this
      obtain ⟨row, y, h3, _⟩ := hrow i hi
      simp only [els, List.getElem?_map, List.getElem?_range hi, Option.map_some, h3, Option.getD_some] at hr
      cases hr
      exact ⟨hi, h3⟩
    have hlen' : els.length = len := by simp [els]
    refine ⟨_, els, h1, ⟨_, cap, by rw [hlen'], fun hp => ?_⟩, ?_, fun r hr => ?_⟩
    · rw [hlen'] at hp
      obtain ⟨row, y, h3, _⟩ := hrow 0 hp
      have ha : a.add (0 * sz) = a := by simp [Addr.add]
      rw [ha] at h3
      obtain ⟨c, e', fz, h4, h5, _⟩ := (cells_at h3).2 h0
      obtain ⟨b, o, sp⟩ := a
      injection h4 with _ _ h4
      subst h4
      refine ⟨b, o, c.toList, e', fz, rfl, h5, At.flatten (sz := sz) (fun r hr => ?_) (fun i r hr => ?_)⟩
      · obtain ⟨i, hi⟩ := List.getElem?_of_mem hr
        exact (cells_at (hels i r hi).2).1
      · have h6 := (hels i r hr).2
        have hadd : (Addr.mk b o none).add (i * sz) = ⟨b, o + i * sz, none⟩ := by
          unfold Addr.add; split
          · rename_i e; rw [e]; rfl
          · rfl
        rw [hadd] at h6
        obtain ⟨c', _, _, _, h8, h9⟩ := (cells_at h6).2 h0
        have : c' = c := by have := h8.symm.trans h5; injection this with this; injection this
        rw [← this]; exact h9
    · have h3 := hw ((elems.map (·.1)).length * P.bytesOf e + (rest.map (·.1)).length * P.bytesOf e) (by simp [DataW.weights, ht, Nat.add_mul])
      rw [hlen']
      simp only [List.length_map, hlen] at h3
      omega
    · obtain ⟨i, hi⟩ := List.getElem?_of_mem hr
      obtain ⟨hlt, h3⟩ := hels i r hi
      refine ⟨(cells_at h3).1, ?_⟩
      obtain ⟨row, y, h4, h5, h6⟩ := hrow i hlt
      obtain rfl : row = r := Option.some.inj (h4.symm.trans h3)
      refine ⟨y.1, ⟨n, y.2, h5⟩, fun m hm => hw m ?_⟩
      simp only [DataW.weights, ht, List.mem_cons, List.mem_append]
      exact .inr (.inl (mem_weightsAll (List.mem_map.2 ⟨y, List.mem_of_getElem? h6, rfl⟩) m hm))
theorem list_of {α β : Type} {f : α → β} {p : α → Prop} : ∀ {els : List β}, (∀ r ∈ els, ∃ x, r = f x ∧ p x) → ∃ l : List α, els = l.map f ∧ ∀ x ∈ l, p x
  | [], _ => ⟨[], rfl, by simp⟩
  | r :: els, h => by
    obtain ⟨x, rfl, hx⟩ := h r (by simp)
    obtain ⟨l, rfl, hl⟩ := list_of (els := els) (f := f) (p := p) (fun r hr => h r (by simp [hr]))
    exact ⟨x :: l, rfl, by simpa using ⟨hx, hl⟩⟩
theorem flatten_single {α β : Type} (f : α → β) (l : List α) : (l.map fun x => [f x]).flatten = l.map f := by
  induction l with
  | nil => rfl
  | cons x l ih => simp only [List.map_cons, List.flatten_cons, ih]; rfl
theorem u8_of {n : Int} (h : (Lit.int .u8 n).wf = true) : ∃ b : UInt8, n = b.toNat := by
  simp only [Lit.wf, Bool.and_eq_true, decide_eq_true_eq] at h
  have h1 : IntKind.u8.min = 0 := rfl
  have h2 : IntKind.u8.max = 255 := rfl
  rw [h1, h2] at h
  refine ⟨UInt8.ofNat n.toNat, ?_⟩
  rw [UInt8.toNat_ofNat']
  omega
theorem Reads.bytes (ht : P.underlying t = some (.slice e)) (he : P.underlying e = some (.int .u8)) (hz : P.cellsOf e = 1) (hb : P.bytesOf e = 1) (h : Reads enc P W t cs d) :
    ∃ (v : Value) (l : List UInt8), cs = [v] ∧ ro (mem W) v l.length (u8s l) ∧ l.length ≤ reachBytes := by
  obtain ⟨v, els, h1, h2, h3, h4⟩ := h.slice ht hz (by omega)
  obtain ⟨l, rfl, _⟩ := list_of (f := fun b : UInt8 => [Value.int .u8 b.toNat]) (p := fun _ => True) (fun r hr => by
    obtain ⟨_, d', hd⟩ := h4 r hr
    obtain ⟨n, rfl, hn⟩ := hd.int he
    obtain ⟨b, rfl⟩ := u8_of hn
    exact ⟨b, rfl, trivial⟩)
  rw [flatten_single, List.length_map] at h2
  rw [List.length_map, hb, Nat.mul_one] at h3
  exact ⟨v, l, h1, h2, h3⟩
theorem Reads.ints (ht : P.underlying t = some (.slice e)) (he : P.underlying e = some (.int .i64)) (hz : P.cellsOf e = 1) (hb : P.bytesOf e = 8) (h : Reads enc P W t cs d) :
    ∃ (v : Value) (l : List Int), cs = [v] ∧ ro (mem W) v l.length (i64s l) ∧ l.length * 8 ≤ reachBytes ∧ ∀ n ∈ l, (Lit.int .i64 n).wf = true := by
  obtain ⟨v, els, h1, h2, h3, h4⟩ := h.slice ht hz (by omega)
  obtain ⟨l, rfl, hl⟩ := list_of (f := fun n : Int => [Value.int .i64 n]) (p := fun n => (Lit.int .i64 n).wf = true) (fun r hr => by
    obtain ⟨_, d', hd⟩ := h4 r hr
    obtain ⟨n, rfl, hn⟩ := hd.int he
    exact ⟨n, rfl, hn⟩)
  rw [flatten_single, List.length_map] at h2
  rw [List.length_map, hb] at h3
  exact ⟨v, l, h1, h2, h3, hl⟩
def bools (l : List Bool) : List Value := l.map .bool
theorem Reads.bools (ht : P.underlying t = some (.slice e)) (he : P.underlying e = some .bool) (hz : P.cellsOf e = 1) (hb : P.bytesOf e = 1) (h : Reads enc P W t cs d) :
    ∃ (v : Value) (l : List Bool), cs = [v] ∧ ro (mem W) v l.length (Sl.bools l) ∧ l.length ≤ reachBytes := by
  obtain ⟨v, els, h1, h2, h3, h4⟩ := h.slice ht hz (by omega)
  obtain ⟨l, rfl, _⟩ := list_of (f := fun b : Bool => [Value.bool b]) (p := fun _ => True) (fun r hr => by
    obtain ⟨_, d', hd⟩ := h4 r hr
    obtain ⟨b, rfl⟩ := hd.bool he
    exact ⟨b, rfl, trivial⟩)
  rw [flatten_single, List.length_map] at h2
  rw [List.length_map, hb, Nat.mul_one] at h3
  exact ⟨v, l, h1, h2, h3⟩
theorem i64_of {n : Int} (h : (Lit.int .i64 n).wf = true) : -9223372036854775808 ≤ n ∧ n ≤ 9223372036854775807 := by
  simp only [Lit.wf, Bool.and_eq_true, decide_eq_true_eq] at h
  exact h
/-- Out of the form's own reach. -/
theorem reads_of {ts : List TypeId} {ds : List (DataW H)} (hw : (DataW.weightsEach P ts ds).all (· ≤ reachBytes) = true) {j : Nat} {v : Value} {ps : List MemPlace} (ht : ts[j]? = some t) (hd : ds[j]? = some d) (h : DataW.Trod enc P W 0 (fun _ => true) true t v d ps) : Reads enc P W t v.cells.toList d := by
  obtain ⟨fuel, h⟩ := h
  refine ⟨⟨fuel, ps, h⟩, fun n hn => ?_⟩
  have := List.all_eq_true.1 hw n (DataW.weights_mem_each ht hd n hn)
  simpa using this
end reads
end Go.Sl
