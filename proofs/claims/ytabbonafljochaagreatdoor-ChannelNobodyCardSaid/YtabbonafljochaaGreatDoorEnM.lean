/- The engine, part M: maps whose keys are numbers or strings. -/
import Derived.Test.YtabbonafljochaaGreatDoorEnI
import Derived.MapKept
namespace Go.Sl
open Go.MapKept (bytes_beq run_findKey heap_set)
variable {P : Program} {cx : Cx} {fr : Fr} {Γ : List HProp} {Q : Exit → Act → World → Prop} {ops : Array Oper} {ty : TypeId} {K : Act → World → Prop}

/-- How keys lie in a map: a plain kind, and what tells two of them apart. -/
class Key (α : Type) where
  val : α → Value
  deq : DecidableEq α
instance {α : Type} [Key α] : DecidableEq α := Key.deq
structure KeyT (P : Program) (α : Type) [Key α] (kt : TypeId) : Prop where
  now : ∃ d, P.underlying kt = some d ∧ (∀ a b : α, Instr.sameNow d (Key.val a) (Key.val b) = some (decide (a = b))) ∧ (∀ e n w (a : α), (Instr.checkKey e (n + 1) kt (Key.val a)).run P w = .ok () w)
  bits : ∀ (a : α) n, Instr.sameBits n (Key.val a) (Key.val a) = true

instance : Key Int := ⟨.int .i64, inferInstance⟩
instance : Key (List UInt8) := ⟨str, inferInstance⟩
theorem KeyT.int {kt : TypeId} (h : P.underlying kt = some (.int .i64)) : KeyT P Int kt :=
  ⟨⟨_, h, fun a b => by simp [Key.val, Instr.sameNow]; rfl, fun e n w a => by simp [Instr.checkKey, Key.val, run_underlying h]⟩, fun a n => by cases n <;> simp [Key.val, Instr.sameBits]⟩
theorem KeyT.str {kt : TypeId} (h : P.underlying kt = some .string) : KeyT P (List UInt8) kt :=
  ⟨⟨_, h, fun a b => by
      simp only [Key.val, Instr.sameNow, Option.some.injEq]
      rw [Bool.eq_iff_iff, bytes_beq]; simp, fun e n w a => by simp [Instr.checkKey, Key.val, run_underlying h]⟩, fun a n => by cases n <;> simp [Key.val, Instr.sameBits, bytes_beq]⟩

section pure
variable {α : Type} [Key α]
def mfind : List (α × Value) → α → Option (Nat × Value)
  | [], _ => none
  | (k, v) :: r, a => if a = k then some (0, v) else (mfind r a).map fun p => (p.1 + 1, p.2)
def mget (l : List (α × Value)) (a : α) : Option Value := (mfind l a).map (·.2)
def mset : List (α × Value) → α → Value → List (α × Value)
  | [], a, u => [(a, u)]
  | (k, v) :: r, a, u => if a = k then (a, u) :: r else (k, v) :: mset r a u
def mdel : List (α × Value) → α → List (α × Value)
  | [], _ => []
  | (k, v) :: r, a => if a = k then r else (k, v) :: mdel r a
theorem mget_nil (a : α) : mget ([] : List (α × Value)) a = none := rfl
theorem mget_cons (k : α) (v : Value) (r : List (α × Value)) (a : α) : mget ((k, v) :: r) a = if a = k then some v else mget r a := by
  simp only [mget, mfind]; split <;> simp [Option.map_map]; rfl
theorem mget_mset (l : List (α × Value)) (a b : α) (u : Value) : mget (mset l a u) b = if b = a then some u else mget l b := by
  induction l with
  | nil => simp [mset, mget_cons, mget_nil]
  | cons p r ih =>
    obtain ⟨k, v⟩ := p
    simp only [mset]
    split
    · rename_i e; subst e; simp only [mget_cons]; split <;> rfl
    · rename_i e; simp only [mget_cons, ih]
      by_cases h1 : b = k
      · subst h1; simp [Ne.symm e]
      · simp [h1]
def pair (p : α × Value) : Value × Value := (Key.val p.1, p.2)
def ent (e : MapEntry) : Value × Value := (e.key, e.val)
theorem find_spec {d : TypeDesc} (hd : ∀ a b : α, Instr.sameNow d (Key.val a) (Key.val b) = some (decide (a = b))) (a : α) :
    ∀ (L : List MapEntry) (es : List (α × Value)) (i : Nat), L.map ent = es.map pair → Instr.findNow d (Key.val a) L i = some ((mfind es a).map fun p => (i + p.1, p.2))
  | [], [], i, _ => rfl
  | [], p :: es, i, h => by simp at h
  | e :: L, [], i, h => by simp at h
  | e :: L, (k, v) :: es, i, h => by
    simp only [List.map_cons, List.cons.injEq] at h
    obtain ⟨h1, h2⟩ := h
    have hk : e.key = Key.val k := congrArg (·.1) h1
    have hv : e.val = v := congrArg (·.2) h1
    simp only [Instr.findNow, hk, hd, mfind]
    by_cases q : a = k
    · simp [q, hv]
    · simp only [q, decide_false, if_false, Option.map_map]
      rw [find_spec hd a L es (i + 1) h2]
      congr 2
      funext p; simp; omega
theorem modify_spec (a : α) (u : Value) : ∀ (L : List MapEntry) (es : List (α × Value)) (j : Nat) (v : Value), L.map ent = es.map pair → mfind es a = some (j, v) →
    (L.modify j fun e => { e with key := Key.val a, val := u }).map ent = (mset es a u).map pair ∧ (L.modify j fun e => { e with key := Key.val a, val := u }).map (·.born) = L.map (·.born)
  | [], [], j, v, _, h => by simp [mfind] at h
  | [], p :: es, _, _, h, _ => by simp at h
  | e :: L, [], _, _, h, _ => by simp at h
  | e :: L, (k, x) :: es, j, v, h, hf => by
    simp only [List.map_cons, List.cons.injEq] at h
    obtain ⟨h1, h2⟩ := h
    simp only [mfind] at hf
    by_cases q : a = k
    · rw [if_pos q] at hf
      cases hf
      simp [mset, q, h2, pair, ent]
    · rw [if_neg q] at hf
      obtain ⟨⟨j', v'⟩, hf', hp⟩ := Option.map_eq_some_iff.1 hf
      cases hp
      obtain ⟨r1, r2⟩ := modify_spec a u L es j' v' h2 hf'
      simp only [List.modify_succ_cons, List.map_cons, mset, if_neg q, r1, r2, h1]
      exact ⟨trivial, trivial⟩
theorem mset_new (a : α) (u : Value) : ∀ es : List (α × Value), mfind es a = none → mset es a u = es ++ [(a, u)]
  | [], _ => rfl
  | (k, x) :: es, h => by
    simp only [mfind] at h
    by_cases q : a = k
    · simp [q] at h
    · rw [if_neg q] at h
      simp only [mset, if_neg q, List.cons_append]
      rw [mset_new a u es (by simpa using h)]
theorem erase_spec (a : α) : ∀ (L : List MapEntry) (es : List (α × Value)) (j : Nat) (v : Value), L.map ent = es.map pair → mfind es a = some (j, v) → (L.eraseIdx j).map ent = (mdel es a).map pair
  | [], [], j, v, _, h => by simp [mfind] at h
  | [], p :: es, _, _, h, _ => by simp at h
  | e :: L, [], _, _, h, _ => by simp at h
  | e :: L, (k, x) :: es, j, v, h, hf => by
    simp only [List.map_cons, List.cons.injEq] at h
    obtain ⟨h1, h2⟩ := h
    simp only [mfind] at hf
    by_cases q : a = k
    · rw [if_pos q] at hf
      cases hf
      simp [mdel, q, h2]
    · rw [if_neg q] at hf
      obtain ⟨⟨j', v'⟩, hf', hp⟩ := Option.map_eq_some_iff.1 hf
      cases hp
      simp [mdel, q, h1, erase_spec a L es j' v' h2 hf']
theorem mdel_none (a : α) : ∀ es : List (α × Value), mfind es a = none → mdel es a = es
  | [], _ => rfl
  | (k, x) :: es, h => by
    simp only [mfind] at h
    by_cases q : a = k
    · simp [q] at h
    · rw [if_neg q] at h
      simp only [mdel, if_neg q]
      rw [mdel_none a es (by simpa using h)]
theorem mfind_lt (a : α) : ∀ (es : List (α × Value)) (j : Nat) (v : Value), mfind es a = some (j, v) → j < es.length
  | [], _, _, h => by simp [mfind] at h
  | (k, x) :: es, j, v, h => by
    simp only [mfind] at h
    by_cases q : a = k
    · rw [if_pos q] at h; cases h; simp
    · rw [if_neg q] at h
      obtain ⟨⟨j', v'⟩, hf', hp⟩ := Option.map_eq_some_iff.1 h
      cases hp
      have := mfind_lt a es j' v' hf'
      simp; omega

/-- A map that is owned: its keys and values, in the order in which they came. -/
structure Mp (es : List (α × Value)) (x : Array MapEntry × Nat) : Prop where
  same : x.1.toList.map ent = es.map pair
  nodup : (x.1.toList.map (·.born)).Nodup
  born : ∀ e ∈ x.1.toList, e.born < x.2
def mp (b : Nat) (es : List (α × Value)) : HProp := exs (Mp es) fun x => [pt b (.map x.1 x.2)]
theorem Sat.mp_new {b : Nat} {hF : Hp} {w : World} (h : Sat (pt b (.map #[] 0) :: Γ) hF w) : Sat (mp b ([] : List (α × Value)) :: Γ) hF w :=
  Sat.shut (#[], 0) ⟨rfl, by simp, by simp⟩ h
end pure

section ops
variable {α : Type} [Key α] {d : Option Tmp} {pos : String} {af : Array Edge} {g : Option (Nat × Bool)} {x y z : Operand} {t kt e : TypeId} {b : Nat} {es : List (α × Value)} {a : α} {u zv : Value}
def zeroV (P : Program) (t : TypeId) : Option Value := (P.info? t).bind (·.zero)
theorem run_zeroV {t : TypeId} {v : Value} (h : zeroV P t = some v) (w : World) : (zeroValue t).run P w = .ok v w := by
  obtain ⟨i, hi, hz⟩ := Option.bind_eq_some_iff.1 h
  simp [zeroValue, typeInfo, hi, hz]
theorem run_lookup_mp {w : World} {X : Array MapEntry × Nat} (hk : KeyT P α kt) (ht : P.underlying t = some (.map kt e)) (hz : zeroV P e = some zv) (hX : Mp es X) (hb : w.heap[b]? = some (.map X.1 X.2)) (ok : Bool) :
    (Instr.lookup t (.map (some b)) (Key.val a) ok).run P w = .ok (if ok then .tuple #[(mget es a).getD zv, .bool (mget es a).isSome] else (mget es a).getD zv) w := by
  obtain ⟨d, hd, hnow, hck⟩ := hk.now
  have hf := run_findKey (w := w) hd (find_spec hnow a X.1.toList es 0 hX.same)
  have hc := fun e => hck e 9999 w a
  simp only [Instr.lookup, Sem.run_bind, run_underlying ht, Result.andThen_ok, MapKept.run_getObj_map hb, Sem.run_pure, hc, hf]
  cases hm : mfind es a with
  | none => cases ok <;> simp [mget, hm, run_zeroV hz]
  | some p => cases ok <;> simp [mget, hm]
theorem Yl.lookup (i : Nat) (ok : Bool) (hk : KeyT P α kt) (ht : P.underlying t = some (.map kt e)) (hz : zeroV P e = some zv) (hx : ev cx fr x = some (.map (some b))) (hy : ev cx fr y = some (Key.val a)) (hi : Γ[i]? = some (mp b es)) :
    Yl P cx fr Γ (.lookup t x y ok) ty (if ok then .tuple #[(mget es a).getD zv, .bool (mget es a).isSome] else (mget es a).getD zv) := fun A w d pos af g st => by
  obtain ⟨X, hX, hs⟩ := (st.heap.perm (perm_eraseIdx hi)).opens
  have := run_lookup_mp (a := a) hk ht hz hX hs.pt_head ok
  simp [execOp, st.eval hx, st.eval hy, this]
theorem Yl.lookup_nil (ok : Bool) (hk : KeyT P α kt) (ht : P.underlying t = some (.map kt e)) (hz : zeroV P e = some zv) (hx : ev cx fr x = some (.map none)) (hy : ev cx fr y = some (Key.val a)) :
    Yl P cx fr Γ (.lookup t x y ok) ty (if ok then .tuple #[zv, .bool false] else zv) := fun A w d pos af g st => by
  obtain ⟨d', hd, hnow, hck⟩ := hk.now
  have hc := fun e => hck e 9999 w a
  have hf : (Instr.findKey kt (Key.val a) []).run P w = .ok none w := run_findKey hd rfl
  cases ok <;> simp [execOp, st.eval hx, st.eval hy, Instr.lookup, run_underlying ht, hc, hf, run_zeroV hz]

theorem Yl.look1 (i : Nat) (hk : KeyT P α kt) (ht : P.underlying t = some (.map kt e)) (hz : zeroV P e = some zv) (hx : ev cx fr x = some (.map (some b))) (hy : ev cx fr y = some (Key.val a)) (hi : Γ[i]? = some (mp b es)) (hv : (mget es a).getD zv = u) :
    Yl P cx fr Γ (.lookup t x y false) ty u := by
  have := Yl.lookup (ty := ty) i false hk ht hz hx hy hi
  simp only [Bool.false_eq_true, if_false, hv] at this; exact this
theorem Yl.look2 (i : Nat) {f : Bool} (hk : KeyT P α kt) (ht : P.underlying t = some (.map kt e)) (hz : zeroV P e = some zv) (hx : ev cx fr x = some (.map (some b))) (hy : ev cx fr y = some (Key.val a)) (hi : Γ[i]? = some (mp b es)) (hv : (mget es a).getD zv = u) (hf : (mget es a).isSome = f) :
    Yl P cx fr Γ (.lookup t x y true) ty (.tuple #[u, .bool f]) := by
  have := Yl.lookup (ty := ty) i true hk ht hz hx hy hi
  simp only [if_true, hv, hf] at this; exact this

theorem heap_put {w : World} {r : Nat} {o o' : Obj} (_ : w.heap[r]? = some o) : Same w { w with heap := w.heap.setIfInBounds r o' } := ⟨rfl, rfl, rfl, by simp⟩
theorem GO.mapUpdate (i : Nat) (hw : Wt cx ops fr g true) (hk : KeyT P α kt) (ht : P.underlying t = some (.map kt e)) (hx : ev cx fr x = some (.map (some b))) (hy : ev cx fr y = some (Key.val a)) (hz : ev cx fr z = some u) (hi : Γ[i]? = some (mp b es))
    (h : GK cx K (upd d undef fr) (Γ.set i (mp b (mset es a u)))) : GO P cx ops Q ⟨d, .mapUpdate t x y z, ty, pos, af, g⟩ K fr Γ := by
  refine GO.effect hw (Φ := fun q Γ' => q = undef ∧ Γ' = Γ.set i (mp b (mset es a u))) (fun A w d pos af g st => ?_) ?_
  · obtain ⟨X, hX, hs⟩ := (st.heap.perm (perm_eraseIdx hi)).opens
    have hb := hs.pt_head
    obtain ⟨d', hd, hnow, hck⟩ := hk.now
    have hc := hck false 9999 w a
    have hf := run_findKey (w := w) hd (find_spec hnow a X.1.toList es 0 hX.same)
    cases hm : mfind es a with
    | none =>
      rw [hm] at hf
      refine ⟨undef, { w with heap := w.heap.setIfInBounds b (.map (X.1.push { key := Key.val a, val := u, born := X.2 }) (X.2 + 1)) }, _, .inr ⟨?_, rfl⟩, ⟨rfl, rfl⟩, ?_, heap_put hb⟩
      · simp only [Option.map_none] at hf
        simp [execOp, st.eval hx, st.eval hy, st.eval hz, Instr.mapUpdate, run_underlying ht, MapKept.run_getObj_map hb, hc, hf, MapKept.run_setObj_map _ hb]
      · refine Sat.perm (perm_set hi) (Sat.shut (X.1.push { key := Key.val a, val := u, born := X.2 }, X.2 + 1) ⟨?_, ?_, ?_⟩ (hs.write_head (heap_set hb).1 (heap_set hb).2))
        · rw [mset_new a u es hm]; simp [hX.same, ent, pair]
        · have hn := hX.nodup
          simp only [Array.toList_push, List.map_append, List.map_cons, List.map_nil]
          rw [List.nodup_append]
          refine ⟨hn, by simp, ?_⟩
          intro p hp q hq
          obtain ⟨e1, he1, rfl⟩ := List.mem_map.1 hp
          have := hX.born e1 he1
          simp at hq; omega
        · intro e1 he1
          simp only [Array.toList_push, List.mem_append, List.mem_cons, List.not_mem_nil, or_false] at he1
          rcases he1 with h1 | rfl
          · have := hX.born e1 h1; show e1.born < X.2 + 1; omega
          · show X.2 < X.2 + 1; omega
    | some p =>
      obtain ⟨j, v⟩ := p
      rw [hm] at hf
      obtain ⟨m1, m2⟩ := modify_spec a u X.1.toList es j v hX.same hm
      have hj : j < X.1.size := by have h1 := mfind_lt a es j v hm; have h2 := congrArg List.length hX.same; simp at h2; omega
      have hkey : ((X.1[j]?).map (·.key)).getD (Key.val a) = Key.val a := by
        obtain ⟨L, hL⟩ : ∃ L, L = X.1.toList := ⟨_, rfl⟩
        have : ∀ (L : List MapEntry) (es : List (α × Value)) (j : Nat) (v : Value), L.map ent = es.map pair → mfind es a = some (j, v) → ((L[j]?).map (·.key)) = some (Key.val a) := by
          intro L
          induction L with
          | nil => intro es j v h hf; cases es with
            | nil => simp [mfind] at hf
            | cons => simp at h
          | cons e1 L ih =>
            intro es j v h hf
            cases es with
            | nil => simp at h
            | cons q es =>
              obtain ⟨k, x1⟩ := q
              simp only [List.map_cons, List.cons.injEq] at h
              simp only [mfind] at hf
              by_cases q1 : a = k
              · rw [if_pos q1] at hf; cases hf
                have := congrArg (·.1) h.1
                simp [ent, pair] at this
                simp [this, q1]
              · rw [if_neg q1] at hf
                obtain ⟨⟨j', v'⟩, hf', hp⟩ := Option.map_eq_some_iff.1 hf
                cases hp
                simpa using ih es j' v' h.2 hf'
        have := this X.1.toList es j v hX.same hm
        rw [Array.getElem?_toList] at this
        rw [this]; rfl
      have hstay : (Instr.keyThatStays (Key.val a) (Key.val a)).run P w = .ok (Key.val a) w := by simp [Instr.keyThatStays, hk.bits]
      refine ⟨undef, { w with heap := w.heap.setIfInBounds b (.map (X.1.modify j fun e => { e with key := Key.val a, val := u }) X.2) }, _, .inr ⟨?_, rfl⟩, ⟨rfl, rfl⟩, ?_, heap_put hb⟩
      · simp only [Option.map_some, Nat.zero_add] at hf
        simp [execOp, st.eval hx, st.eval hy, st.eval hz, Instr.mapUpdate, run_underlying ht, MapKept.run_getObj_map hb, hc, hf, hkey, hstay, MapKept.run_setObj_map _ hb]
      · refine Sat.perm (perm_set hi) (Sat.shut (X.1.modify j fun e => { e with key := Key.val a, val := u }, X.2) ⟨?_, ?_, ?_⟩ (hs.write_head (heap_set hb).1 (heap_set hb).2))
        · rw [Array.toList_modify]; exact m1
        · rw [Array.toList_modify, m2]; exact hX.nodup
        · intro e1 he1
          rw [Array.toList_modify] at he1
          have : e1.born ∈ (X.1.toList.map (·.born)) := by rw [← m2]; exact List.mem_map.2 ⟨e1, he1, rfl⟩
          obtain ⟨e2, he2, hb2⟩ := List.mem_map.1 this
          rw [← hb2]; exact hX.born e2 he2
  · rintro q Γ' ⟨rfl, rfl⟩; exact h
end ops
end Go.Sl
