/- A disk as plain data, and what its calls do to it. -/
namespace Go.Dk

structure DM where
  sure : List (List UInt8)
  pend : List (Nat × List UInt8)
  off : Bool
  armed : Bool
  plan : Int
  opn : Int

theorem snoc_ind {α : Type} {P : List α → Prop} (h0 : P []) (h1 : ∀ l a, P l → P (l ++ [a])) (l : List α) : P l := by
  rw [← l.reverse_reverse]
  generalize l.reverse = r
  induction r with
  | nil => exact h0
  | cons a r ih => rw [List.reverse_cons]; exact h1 _ _ ih

/-- The place of a sector's last pending write. -/
def lastIx (l : List (Nat × List UInt8)) (i : Int) : Option Nat := l.zipIdx.foldl (fun r x => if (x.1.1 : Int) = i then some x.2 else r) none
theorem lastIx_nil (i : Int) : lastIx [] i = none := rfl
theorem lastIx_snoc (l : List (Nat × List UInt8)) (p : Nat × List UInt8) (i : Int) : lastIx (l ++ [p]) i = if (p.1 : Int) = i then some l.length else lastIx l i := by
  simp [lastIx, List.zipIdx_append, List.foldl_append]
theorem lastIx_lt {l : List (Nat × List UInt8)} {i : Int} {j : Nat} (h : lastIx l i = some j) : ∃ p, l[j]? = some p ∧ (p.1 : Int) = i := by
  revert h j
  refine snoc_ind (P := fun l => ∀ {j : Nat}, lastIx l i = some j → ∃ p, l[j]? = some p ∧ (p.1 : Int) = i) (fun h => by simp [lastIx] at h) (fun l p ih j h => ?_) l
  rw [lastIx_snoc] at h
  split at h
  · rename_i e; cases h; exact ⟨p, by simp, e⟩
  · obtain ⟨q, hq, e⟩ := ih h
    exact ⟨q, by rw [List.getElem?_append_left (List.getElem?_eq_some_iff.1 hq).1]; exact hq, e⟩

structure DM.Ok (D : DM) : Prop where
  pos : 0 < D.sure.length
  le : D.sure.length ≤ 4096
  size : ∀ s ∈ D.sure, s.length = 256
  pend : ∀ p ∈ D.pend, p.1 < D.sure.length ∧ p.2.length = 256
  count : D.pend.length ≤ 1000000000
  opn : 0 ≤ D.opn ∧ D.opn ≤ 1000000000000000000
  plan : 0 ≤ D.plan ∧ D.plan ≤ 9223372036854775807

def DM.get (D : DM) (i : Nat) : List UInt8 := match lastIx D.pend i with
  | some j => ((D.pend[j]?).map (·.2)).getD []
  | none => (D.sure[i]?).getD []
theorem DM.Ok.get {D : DM} (h : D.Ok) {i : Nat} (hi : i < D.sure.length) : (D.get i).length = 256 := by
  unfold DM.get
  cases e : lastIx D.pend i with
  | none => simp only [List.getElem?_eq_getElem hi, Option.getD_some]; exact h.size _ (List.getElem_mem hi)
  | some j =>
    obtain ⟨p, hp, _⟩ := lastIx_lt e
    simp only [hp, Option.map_some, Option.getD_some]; exact (h.pend p (List.mem_of_getElem? hp)).2

/-- What bars a call of a sector. -/
def DM.wrong (D : DM) (i : Int) : Int := if D.off then 50 else if i < 0 ∨ D.sure.length ≤ i then 2 else 0
def DM.read (D : DM) (i : Int) : List UInt8 × Int := if D.wrong i = 0 then (D.get i.toNat, 0) else ([], D.wrong i)
/-- An operation of the plan: false, the power goes ahead of it. -/
def DM.goes (D : DM) : Bool × DM := if D.armed ∧ D.plan = 0 then (false, { D with off := true }) else (true, { D with plan := if D.armed then D.plan - 1 else D.plan, opn := D.opn + 1 })
def DM.write (D : DM) (i : Int) (b : List UInt8) : Int × DM :=
  if D.wrong i ≠ 0 then (D.wrong i, D) else if b.length ≠ 256 then (2, D) else if D.goes.1 = false then (50, D.goes.2) else (0, { D.goes.2 with pend := D.pend ++ [(i.toNat, b)] })
def settles (s : List (List UInt8)) (l : List (Nat × List UInt8)) : List (List UInt8) := l.foldl (fun s p => s.set p.1 p.2) s
theorem settles_length (s : List (List UInt8)) (l : List (Nat × List UInt8)) : (settles s l).length = s.length := by
  induction l generalizing s with
  | nil => rfl
  | cons p l ih => show (settles (s.set p.1 p.2) l).length = _; rw [ih]; simp
theorem settles_snoc (s : List (List UInt8)) (l : List (Nat × List UInt8)) (p : Nat × List UInt8) : settles s (l ++ [p]) = (settles s l).set p.1 p.2 := by simp [settles, List.foldl_append]
theorem settles_take (s : List (List UInt8)) {l : List (Nat × List UInt8)} {i : Nat} {p : Nat × List UInt8} (h : l[i]? = some p) : settles s (l.take (i + 1)) = (settles s (l.take i)).set p.1 p.2 := by
  rw [List.take_add_one, h]; exact settles_snoc _ _ _
theorem settles_size {s : List (List UInt8)} {l : List (Nat × List UInt8)} (hs : ∀ x ∈ s, x.length = 256) (hl : ∀ p ∈ l, p.2.length = 256) : ∀ x ∈ settles s l, x.length = 256 := by
  induction l generalizing s with
  | nil => exact hs
  | cons p l ih =>
    refine ih (s := s.set p.1 p.2) (fun x hx => ?_) (fun q hq => hl q (by simp [hq]))
    rcases List.mem_or_eq_of_mem_set hx with h | h
    · exact hs x h
    · rw [h]; exact hl p (by simp)
def DM.flush (D : DM) : Int × DM := if D.off then (50, D) else if D.goes.1 = false then (50, D.goes.2) else (0, { D.goes.2 with sure := settles D.sure D.pend, pend := [] })
def DM.arm (D : DM) (n : Int) : Int × DM := if D.off then (50, D) else if n < 0 then (2, D) else (0, { D with armed := true, plan := n })
/-- Those of the pending writes whose places are kept. -/
def kept (keep : List Int) (l : List (Nat × List UInt8)) : List (Nat × List UInt8) := (l.zipIdx.filter fun x => keep.contains (x.2 : Int)).map (·.1)
theorem kept_take (keep : List Int) {l : List (Nat × List UInt8)} {i : Nat} {p : Nat × List UInt8} (h : l[i]? = some p) : kept keep (l.take (i + 1)) = kept keep (l.take i) ++ if keep.contains (i : Int) then [p] else [] := by
  have hi : i < l.length := (List.getElem?_eq_some_iff.1 h).1
  rw [List.take_add_one, h]
  simp only [kept, Option.toList, List.zipIdx_append, List.filter_append, List.map_append]
  congr 1
  have : min i l.length = i := by omega
  rw [List.length_take, this]
  by_cases e : keep.contains (i : Int) = true
  · rw [if_pos e]; simp only [Nat.zero_add, List.zipIdx_cons, List.zipIdx_nil, List.filter_cons, e, if_true, List.filter_nil, List.map_cons, List.map_nil]
  · rw [if_neg e]; simp only [Nat.zero_add, List.zipIdx_cons, List.zipIdx_nil, List.filter_cons, e, if_false, List.filter_nil, List.map_nil, Bool.false_eq_true]
theorem mem_kept {keep : List Int} {l : List (Nat × List UInt8)} {p : Nat × List UInt8} (h : p ∈ kept keep l) : p ∈ l := by
  obtain ⟨x, hx, rfl⟩ := List.mem_map.1 h
  have hx := (List.mem_filter.1 hx).1
  obtain ⟨a, i⟩ := x
  exact (List.mem_zipIdx_iff_getElem?.1 hx) |> List.mem_of_getElem?
def rep (n : Nat) (c : UInt8) : List UInt8 := List.replicate n c
theorem rep_length (n : Nat) (c : UInt8) : (rep n c).length = n := List.length_replicate
def blank : List UInt8 := rep 256 0
theorem blank_length : blank.length = 256 := rep_length _ _
def DM.fresh (n : Nat) : DM := ⟨List.replicate n blank, [], false, false, 0, 0⟩
theorem DM.Ok.fresh {n : Nat} (h0 : 0 < n) (h1 : n ≤ 4096) : (DM.fresh n).Ok := by
  refine ⟨by simpa [DM.fresh] using h0, by simpa [DM.fresh] using h1, ?_, ?_, ?_, ?_, ?_⟩
  · intro s hs; rw [(List.mem_replicate.1 hs).2]; exact blank_length
  · intro p hp; simp [DM.fresh] at hp
  · simp [DM.fresh]
  · simp [DM.fresh]
  · simp [DM.fresh]
def DM.restart (D : DM) (keep : List Int) : Int × DM :=
  if keep.any (fun k => decide (k < 0 ∨ D.pend.length ≤ k)) then (2, D) else (0, { sure := settles D.sure (kept keep D.pend), pend := [], off := false, armed := false, plan := 0, opn := D.opn })
end Go.Dk
