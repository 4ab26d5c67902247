/- Two patches that may be have the same bytes just if they are the same. -/
import Derived.Test.YtbbfhchceimflaaDoorPbF
set_option linter.unusedSimpArgs false
set_option linter.unusedVariables false
namespace Go.Pb
open Go Go.Sl Go.Lb Go.Pa Go.Oc
theorem ofNat_inj {a b : Nat} (ha : a < 256) (hb : b < 256) (h : UInt8.ofNat a = UInt8.ofNat b) : a = b := by
  have := congrArg UInt8.toNat h
  simp at this
  omega
theorem uv_inj : ∀ (n m : Nat) {s t : By}, uv n ++ s = uv m ++ t → n = m ∧ s = t := by
  intro n
  induction n using Nat.strongRecOn with
  | _ n ih =>
    intro m s t h
    by_cases hn : n < 128
    · rw [uv_low hn] at h
      by_cases hm : m < 128
      · rw [uv_low hm] at h
        simp only [List.cons_append, List.nil_append, List.cons.injEq] at h
        exact ⟨ofNat_inj (by omega) (by omega) h.1, h.2⟩
      · rw [uv_high hm] at h
        simp only [List.cons_append, List.nil_append, List.cons.injEq] at h
        have := ofNat_inj (by omega) (by omega) h.1
        omega
    · rw [uv_high hn] at h
      by_cases hm : m < 128
      · rw [uv_low hm] at h
        simp only [List.cons_append, List.nil_append, List.cons.injEq] at h
        have := ofNat_inj (by omega) (by omega) h.1
        omega
      · rw [uv_high hm] at h
        simp only [List.cons_append, List.cons.injEq] at h
        have h1 := ofNat_inj (by omega) (by omega) h.1
        obtain ⟨h2, h3⟩ := ih (n / 128) (by omega) (m / 128) h.2
        exact ⟨by omega, h3⟩
theorem app_inj {a b s t : By} (hl : a.length = b.length) (h : a ++ s = b ++ t) : a = b ∧ s = t := List.append_inj h hl
theorem tx_inj {a b s t : By} (h : tx a ++ s = tx b ++ t) : a = b ∧ s = t := by
  unfold tx at h
  rw [List.append_assoc, List.append_assoc] at h
  obtain ⟨h1, h2⟩ := uv_inj _ _ h
  exact app_inj h1 h2
theorem flat_inj {α : Type} {f g : α → By} : ∀ {l m : List α} {s t : By}, (∀ a b s t, a ∈ l → b ∈ m → f a ++ s = g b ++ t → a = b ∧ s = t) → l.length = m.length → l.flatMap f ++ s = m.flatMap g ++ t → l = m ∧ s = t
  | [], [], s, t, _, _, h => ⟨rfl, by simpa using h⟩
  | [], _ :: _, _, _, _, hl, _ => by simp at hl
  | _ :: _, [], _, _, _, hl, _ => by simp at hl
  | a :: l, b :: m, s, t, hi, hl, h => by
    rw [List.flatMap_cons, List.flatMap_cons, List.append_assoc, List.append_assoc] at h
    obtain ⟨rfl, h2⟩ := hi a b _ _ (by simp) (by simp) h
    obtain ⟨rfl, h3⟩ := flat_inj (fun x y s t hx hy => hi x y s t (by simp [hx]) (by simp [hy])) (by simpa using hl) h2
    exact ⟨rfl, h3⟩
theorem deps_inj : ∀ {l m : List By} {s t : By}, (∀ h ∈ l, h.length = 32) → (∀ h ∈ m, h.length = 32) → l.length = m.length → l.flatten ++ s = m.flatten ++ t → l = m ∧ s = t
  | [], [], s, t, _, _, _, h => ⟨rfl, by simpa using h⟩
  | [], _ :: _, _, _, _, _, hl, _ => by simp at hl
  | _ :: _, [], _, _, _, _, hl, _ => by simp at hl
  | a :: l, b :: m, s, t, h1, h2, hl, h => by
    rw [List.flatten_cons, List.flatten_cons, List.append_assoc, List.append_assoc] at h
    obtain ⟨rfl, h3⟩ := app_inj (by rw [h1 a (by simp), h2 b (by simp)]) h
    obtain ⟨rfl, h4⟩ := deps_inj (fun x hx => h1 x (by simp [hx])) (fun x hx => h2 x (by simp [hx])) (by simpa using hl) h3
    exact ⟨rfl, h4⟩
theorem place_at {l : List By} {h : By} {k : Nat} (hk : placeI l h = k) : l[k]? = some h := by
  unfold placeI at hk
  cases hf : l.findIdx? (· == h) with
  | none => rw [hf] at hk; exfalso; have hk : (-1 : Int) = (k : Int) := hk; omega
  | some i =>
    rw [hf] at hk
    have hk : (i : Int) = (k : Int) := hk
    obtain rfl : i = k := by omega
    obtain ⟨hi, h1, _⟩ := List.findIdx?_eq_some_iff_getElem.1 hf
    have : l[i] = h := by simpa using h1
    rw [List.getElem?_eq_getElem hi, this]
theorem vx_inj {p q : Pch} (hd : p.deps = q.deps) {v w : Vx} {s t : By} (hv : v = topV ∨ v = botV ∨ ownM p v = true) (hw : w = topV ∨ w = botV ∨ ownM q w = true) (h : vxB p v ++ s = vxB q w ++ t) : v = w ∧ s = t := by
  unfold vxB at h
  have c2 : ∀ a b : By, ((2 : UInt8) :: a = 0 :: b → False) ∧ ((2 : UInt8) :: a = 1 :: b → False) ∧ ((0 : UInt8) :: a = 2 :: b → False) ∧ ((1 : UInt8) :: a = 2 :: b → False) ∧ ((1 : UInt8) :: a = 0 :: b → False) ∧ ((0 : UInt8) :: a = 1 :: b → False) := fun a b => by
    refine ⟨?_, ?_, ?_, ?_, ?_, ?_⟩ <;> (intro e; simp only [List.cons.injEq] at e; exact absurd e.1 (by decide))
  by_cases v0 : v = topV
  · rw [if_pos v0] at h
    by_cases w0 : w = topV
    · rw [if_pos w0] at h; simp at h; exact ⟨by rw [v0, w0], h⟩
    · rw [if_neg w0] at h
      by_cases w1 : w = botV
      · rw [if_pos w1] at h; exact ((c2 _ _).2.2.2.2.2 h).elim
      · rw [if_neg w1] at h; exact ((c2 _ _).2.2.1 h).elim
  · rw [if_neg v0] at h
    by_cases v1 : v = botV
    · rw [if_pos v1] at h
      by_cases w0 : w = topV
      · rw [if_pos w0] at h; exact ((c2 _ _).2.2.2.2.1 h).elim
      · rw [if_neg w0] at h
        by_cases w1 : w = botV
        · rw [if_pos w1] at h; simp at h; exact ⟨by rw [v1, w1], h⟩
        · rw [if_neg w1] at h; exact ((c2 _ _).2.2.2.1 h).elim
    · rw [if_neg v1] at h
      by_cases w0 : w = topV
      · rw [if_pos w0] at h; exact ((c2 _ _).1 h).elim
      · rw [if_neg w0] at h
        by_cases w1 : w = botV
        · rw [if_pos w1] at h; exact ((c2 _ _).2.1 h).elim
        · rw [if_neg w1] at h
          obtain ⟨⟨k, hk, hk2⟩, n, hn, hn2⟩ := own_parts ((hv.resolve_left v0).resolve_left v1)
          obtain ⟨⟨k', hk', hk2'⟩, n', hn', hn2'⟩ := own_parts ((hw.resolve_left w0).resolve_left w1)
          rw [hk, hn, hk', hn'] at h
          simp only [List.cons_append, List.append_assoc, List.cons.injEq, true_and, Int.toNat_natCast] at h
          obtain ⟨e1, r1⟩ := uv_inj _ _ h
          obtain ⟨e2, r2⟩ := uv_inj _ _ r1
          have a1 := place_at hk
          have a2 := place_at hk'
          rw [hd, e1, a2] at a1
          have a3 : w.h = v.h := by simpa using a1
          have a4 : v.line = w.line := by rw [hn, hn', e2]
          refine ⟨?_, r2⟩
          cases v; cases w
          simp at a3 a4
          rw [a3, a4]
theorem op_inj {p q : Pch} (hd : p.deps = q.deps) {a b : Op1} {s t : By} (ha : a.Good p) (hb : b.Good q) (h : opB p a ++ s = opB q b ++ t) : a = b ∧ s = t := by
  unfold opB at h
  simp only [List.cons_append, List.append_assoc, List.cons.injEq] at h
  obtain ⟨h0, h⟩ := h
  have hk : a.kind = b.kind := by
    have := ofNat_inj (a := a.kind.toNat) (b := b.kind.toNat) (by rcases ha.kind with q | q <;> rw [q] <;> decide) (by rcases hb.kind with q | q <;> rw [q] <;> decide) h0
    rcases ha.kind with x | x <;> rcases hb.kind with y | y <;> rw [x, y] at this ⊢ <;> simp at this
  obtain ⟨h1, r1⟩ := tx_inj h
  obtain ⟨h2, r2⟩ := vx_inj hd (by rcases ha.up with q | q <;> simp [q]) (by rcases hb.up with q | q <;> simp [q]) r1
  rcases ha.kind with k | k
  · have k' : b.kind = 1 := by rw [← hk]; exact k
    rw [if_neg (by omega), if_neg (by omega), List.append_assoc, List.append_assoc, List.append_assoc, List.append_assoc] at r2
    obtain ⟨h3, r3⟩ := vx_inj hd (by rcases ha.down k with q | q <;> simp [q]) (by rcases hb.down k' with q | q <;> simp [q]) r2
    obtain ⟨h4, r4⟩ := uv_inj _ _ r3
    obtain ⟨h5, r5⟩ := flat_inj (f := tx) (g := tx) (fun _ _ _ _ _ _ e => tx_inj e) h4 r4
    refine ⟨?_, r5⟩
    cases a; cases b
    simp at hk h1 h2 h3 h5
    rw [hk, h1, h2, h3, h5]
  · have k' : b.kind = 2 := by rw [← hk]; exact k
    rw [if_pos k, if_pos k', List.nil_append, List.nil_append] at r2
    obtain ⟨a1, a2, _⟩ := ha.kill k
    obtain ⟨b1, b2, _⟩ := hb.kill k'
    refine ⟨?_, r2⟩
    cases a; cases b
    simp at hk h1 h2 a1 a2 b1 b2
    rw [hk, h1, h2, a1, a2, b1, b2]
theorem bytes_inj {p q : Pch} (ho : p.Ok) (hk : q.Ok) (hp : p.Good) (hq : q.Good) (h : bytesM p = bytesM q) : p = q := by
  unfold bytesM at h
  simp only [List.cons.injEq, true_and] at h
  obtain ⟨h1, h⟩ := tx_inj h
  obtain ⟨h2, h⟩ := uv_inj _ _ h
  obtain ⟨h3, h⟩ := tx_inj h
  obtain ⟨h4, h⟩ := uv_inj _ _ h
  obtain ⟨h5, h⟩ := deps_inj ho.dep hk.dep h4 h
  obtain ⟨h6, h⟩ := uv_inj _ _ h
  have h' : p.ops.flatMap (opB p) ++ [] = q.ops.flatMap (opB q) ++ [] := by rw [h]
  obtain ⟨h7, _⟩ := flat_inj (fun a b s t ha hb e => op_inj h5 (hp.op a ha) (hq.op b hb) e) h6 h'
  have ht : p.time = q.time := by have := hp.time; have := hq.time; omega
  cases p; cases q
  simp at h1 ht h3 h5 h7
  rw [h1, ht, h3, h5, h7]
end Go.Pb
