/- The tree's nodes as plain data: put, delete, fill; what they do to the entries, the depth and the filling. -/
import Derived.Test.YtkmdehoofnlkbaaTrM
namespace Go.Tr
inductive T where
  | mk (l : List En) (ks : List T)
def T.l : T → List En | .mk l _ => l
def T.ks : T → List T | .mk _ ks => ks
instance : Inhabited T := ⟨.mk [] []⟩
@[simp] theorem T.l_mk (l : List En) (ks : List T) : (T.mk l ks).l = l := rfl
@[simp] theorem T.ks_mk (l : List En) (ks : List T) : (T.mk l ks).ks = ks := rfl
theorem T.eta (t : T) : T.mk t.l t.ks = t := by cases t; rfl

def flat : Nat → T → List En
  | 0, t => t.l
  | d + 1, t => inter (t.ks.map (flat d)) t.l
def WF : Nat → T → Prop
  | 0, t => t.ks = []
  | d + 1, t => t.ks.length = t.l.length + 1 ∧ ∀ k ∈ t.ks, WF d k
/-- The filling of a node that is not the root, and of all below it. -/
def Sz : Nat → T → Prop
  | 0, t => 3 ≤ t.l.length ∧ t.l.length ≤ 7
  | d + 1, t => (3 ≤ t.l.length ∧ t.l.length ≤ 7) ∧ ∀ k ∈ t.ks, Sz d k
def Kids : Nat → T → Prop
  | 0, _ => True
  | d + 1, t => ∀ k ∈ t.ks, Sz d k
theorem sz_iff {d : Nat} {t : T} : Sz d t ↔ (3 ≤ t.l.length ∧ t.l.length ≤ 7) ∧ Kids d t := by
  cases d <;> simp [Sz, Kids]
theorem WF.leaf {d : Nat} {t : T} (h : WF d t) : t.ks = [] ↔ d = 0 := by
  cases d with
  | zero => simpa [WF] using h
  | succ d =>
    obtain ⟨h1, _⟩ := h
    constructor
    · intro e; rw [e] at h1; simp at h1
    · intro e; cases e

/-- A node's entries are among all. -/
theorem l_sub {d : Nat} {t : T} (h : WF d t) : t.l.Sublist (flat d t) := by
  cases d with
  | zero => exact List.Sublist.refl _
  | succ d => exact inter_sub (by simp [h.1])
theorem srt_l {d : Nat} {t : T} (h : WF d t) (hs : Srt (flat d t)) : Srt t.l := hs.sublist (l_sub h)
/-- Parted at a kid. -/
theorem flat_split {d : Nat} {la lb : List En} {as bs : List T} {k : T} (h : as.length = la.length) : flat (d + 1) (.mk (la ++ lb) (as ++ k :: bs)) = ileft (as.map (flat d)) la ++ flat d k ++ iright lb (bs.map (flat d)) := by
  simp only [flat, T.ks_mk, T.l_mk, List.map_append, List.map_cons]
  exact inter_split (by simp [h])
theorem split_kid {α : Type} {ks : List α} {i : Nat} {k : α} (h : ks[i]? = some k) : ks = ks.take i ++ k :: ks.drop (i + 1) ∧ (ks.take i).length = i := by
  have hlt := (List.getElem?_eq_some_iff.1 h).1
  refine ⟨?_, by simp; omega⟩
  rw [List.getElem?_eq_getElem hlt] at h
  injection h with h
  rw [← h, ← List.drop_eq_getElem_cons hlt, List.take_append_drop]
theorem set_split {α : Type} {as bs : List α} {k x : α} {i : Nat} (h : as.length = i) : (as ++ k :: bs).set i x = as ++ x :: bs := by
  rw [List.set_append_right _ _ (by omega), h, Nat.sub_self]; rfl
theorem ins_split {α : Type} {as bs : List α} {x : α} {i : Nat} (h : as.length = i) : ins (as ++ bs) i x = as ++ x :: bs := by
  unfold ins
  rw [← h, List.take_left, List.drop_left]
theorem ins_split1 {α : Type} {as bs : List α} {k x : α} {i : Nat} (h : as.length = i) : ins (as ++ k :: bs) (i + 1) x = as ++ k :: x :: bs := by
  have := ins_split (as := as ++ [k]) (bs := bs) (x := x) (i := i + 1) (by simp [h])
  simpa using this
theorem rm_split {α : Type} {as bs : List α} {k : α} {i : Nat} (h : as.length = i) : rm (as ++ k :: bs) i = as ++ bs := by
  unfold rm
  rw [← h, List.take_left]
  congr 1
  rw [show as.length + 1 = (as ++ [k]).length by simp, show as ++ k :: bs = (as ++ [k]) ++ bs by simp, List.drop_left]
theorem get_split {α : Type} {as bs : List α} {k : α} {i : Nat} (h : as.length = i) : (as ++ k :: bs)[i]? = some k := by
  rw [List.getElem?_append_right (by omega), h, Nat.sub_self]; rfl

/-! ### put -/
def half (t : T) : Nat := t.l.length / 2
def lo (t : T) : T := .mk (t.l.take (half t)) (t.ks.take (half t + 1))
def hi (t : T) : T := .mk (t.l.drop (half t + 1)) (t.ks.drop (half t + 1))
def mid (t : T) : En := t.l.getD (half t) default
def put : Nat → T → En → T × Bool
  | 0, t, e => if hit t.l e.1 then (.mk (t.l.set (pos t.l e.1) e) t.ks, true) else (.mk (ins t.l (pos t.l e.1) e) t.ks, false)
  | d + 1, t, e =>
    if hit t.l e.1 then (.mk (t.l.set (pos t.l e.1) e) t.ks, true) else
    match t.ks[pos t.l e.1]? with
    | none => (t, false)
    | some k =>
      if 7 < (put d k e).1.l.length then
        (.mk (ins t.l (pos t.l e.1) (mid (put d k e).1)) (ins (t.ks.set (pos t.l e.1) (lo (put d k e).1)) (pos t.l e.1 + 1) (hi (put d k e).1)), (put d k e).2)
      else (.mk t.l (t.ks.set (pos t.l e.1) (put d k e).1), (put d k e).2)

theorem half_l {t : T} (h : 0 < t.l.length) : t.l = (lo t).l ++ mid t :: (hi t).l := by
  have hlt : half t < t.l.length := by unfold half; omega
  have : mid t = t.l[half t] := by simp [mid, List.getD, List.getElem?_eq_getElem hlt]
  rw [this]
  show t.l = t.l.take (half t) ++ t.l[half t] :: t.l.drop (half t + 1)
  rw [← List.drop_eq_getElem_cons hlt, List.take_append_drop]
theorem halves_flat {d : Nat} {t : T} (hw : WF d t) (h : 0 < t.l.length) : flat d t = flat d (lo t) ++ mid t :: flat d (hi t) ∧ WF d (lo t) ∧ WF d (hi t) := by
  cases d with
  | zero =>
    have h0 : t.ks = [] := hw
    exact ⟨half_l h, by show t.ks.take _ = []; simp [h0], by show t.ks.drop _ = []; simp [h0]⟩
  | succ d =>
    obtain ⟨h1, h2⟩ := hw
    have hlt : half t < t.l.length := by unfold half; omega
    have hk : half t < t.ks.length := by omega
    have hk1 : half t + 1 < t.ks.length := by omega
    refine ⟨?_, ⟨?_, fun k hk => h2 k (List.mem_of_mem_take hk)⟩, ⟨?_, fun k hk => h2 k (List.mem_of_mem_drop hk)⟩⟩
    · have e1 : t.ks = t.ks.take (half t) ++ t.ks[half t] :: t.ks.drop (half t + 1) := by rw [← List.drop_eq_getElem_cons hk, List.take_append_drop]
      have e2 : t.ks.drop (half t + 1) = t.ks[half t + 1] :: t.ks.drop (half t + 2) := List.drop_eq_getElem_cons hk1
      have e3 : t = .mk ((lo t).l ++ mid t :: (hi t).l) (t.ks.take (half t) ++ t.ks[half t] :: t.ks.drop (half t + 1)) := by rw [← half_l h, ← e1, T.eta]
      have hll : (t.ks.take (half t)).length = (lo t).l.length := by show _ = (t.l.take (half t)).length; simp; omega
      have e4 : lo t = .mk ((lo t).l ++ []) (t.ks.take (half t) ++ t.ks[half t] :: []) := by
        rw [List.append_nil]
        show T.mk _ (t.ks.take (half t + 1)) = _
        rw [List.take_succ_eq_append_getElem hk]; rfl
      have e5 : flat (d + 1) (hi t) = flat d t.ks[half t + 1] ++ iright (hi t).l ((t.ks.drop (half t + 2)).map (flat d)) := by
        show inter ((t.ks.drop (half t + 1)).map (flat d)) _ = _
        rw [e2]; rfl
      have e6 : flat (d + 1) (lo t) = ileft ((t.ks.take (half t)).map (flat d)) (lo t).l ++ flat d t.ks[half t] := by
        have := flat_split (d := d) (la := (lo t).l) (lb := []) (as := t.ks.take (half t)) (bs := []) (k := t.ks[half t]) hll
        rw [← e4] at this
        simpa [iright] using this
      rw [e6, e5]
      conv => lhs; rw [e3]
      rw [flat_split hll, e2]
      simp only [List.map_cons, iright, List.append_assoc]
    · show (t.ks.take (half t + 1)).length = (t.l.take (half t)).length + 1
      simp; omega
    · show (t.ks.drop (half t + 1)).length = (t.l.drop (half t + 1)).length + 1
      simp; omega

theorem srt_left {A B : List En} (h : Srt (A ++ B)) : Srt A := (List.pairwise_append.1 h).1
theorem srt_right {A B : List En} (h : Srt (A ++ B)) : Srt B := (List.pairwise_append.1 h).2.1
theorem put_flat : ∀ (d : Nat) (t : T) (e : En), WF d t → Srt (flat d t) → flat d (put d t e).1 = lput (flat d t) e ∧ (put d t e).2 = hit (flat d t) e.1 ∧ WF d (put d t e).1
  | 0, t, e, hw, hs => by
    have h0 : t.ks = [] := hw
    have hs' : Srt t.l := hs
    simp only [put, flat]
    cases hh : hit t.l e.1 with
    | true =>
      rw [if_pos rfl]
      have hlt := hit_lt hh
      refine ⟨?_, rfl, h0⟩
      simp only [T.l_mk, lput, hh, if_true]
      rw [List.set_eq_take_append_cons_drop, if_pos hlt]
    | false =>
      rw [if_neg (by simp)]
      exact ⟨by simp [lput, hh, ins], rfl, h0⟩
  | d + 1, t, e, hw, hs => by
    obtain ⟨h1, h2⟩ := hw
    have hsl := srt_l (d := d + 1) ⟨h1, h2⟩ hs
    have hp := pos_le t.l e.1
    obtain ⟨k, hk⟩ : ∃ k, t.ks[pos t.l e.1]? = some k := ⟨_, List.getElem?_eq_getElem (by omega)⟩
    obtain ⟨e1, e2⟩ := split_kid hk
    obtain ⟨i, hi0⟩ : ∃ i, pos t.l e.1 = i := ⟨_, rfl⟩
    obtain ⟨la, hla⟩ : ∃ la, t.l.take i = la := ⟨_, rfl⟩
    obtain ⟨lb, hlb⟩ : ∃ lb, t.l.drop i = lb := ⟨_, rfl⟩
    obtain ⟨as, has⟩ : ∃ as, t.ks.take i = as := ⟨_, rfl⟩
    obtain ⟨bs, hbs⟩ : ∃ bs, t.ks.drop (i + 1) = bs := ⟨_, rfl⟩
    have hl : t.l = la ++ lb := by rw [← hla, ← hlb, List.take_append_drop]
    have hlal : la.length = i := by rw [← hla]; simp; omega
    have htk := srt_take hsl e.1
    rw [hi0] at hk e1 e2 hp htk
    rw [hla] at htk
    rw [has] at e2
    rw [has, hbs] at e1
    have ht : t = .mk (la ++ lb) (as ++ k :: bs) := by rw [← hl, ← e1, T.eta]
    have hfl : flat (d + 1) t = ileft (as.map (flat d)) la ++ flat d k ++ iright lb (bs.map (flat d)) := by rw [ht]; exact flat_split (by rw [e2, hlal])
    rw [hfl] at hs
    have hsA : Srt (ileft (as.map (flat d)) la) := srt_left (srt_left hs)
    have hsK : Srt (flat d k) := srt_right (srt_left hs)
    have hsB : Srt (iright lb (bs.map (flat d))) := srt_right hs
    have hA := ileft_lt hsA htk
    have hwk : WF d k := h2 k (by rw [e1]; simp)
    have hasl : as.length = la.length := by rw [e2, hlal]
    have hbl : bs.length = lb.length := by
      have h3 := h1
      rw [e1, hl] at h3
      simp only [List.length_append, List.length_cons] at h3; omega
    cases hh : hit t.l e.1 with
    | true =>
      obtain ⟨x, r, q1, q2, q3⟩ := srt_drop_hit hsl hh
      rw [hi0, hlb] at q1
      have hset : t.l.set i e = la ++ e :: r := by rw [hl, q1, set_split hlal]
      have hput : put (d + 1) t e = (.mk (t.l.set i e) t.ks, true) := by simp only [put, hh, if_true, hi0]
      rw [hput, hset, hfl, q1]
      cases bs with
      | nil => rw [q1] at hbl; simp at hbl
      | cons b bs =>
        have hmid : ∀ a ∈ ileft (as.map (flat d)) la ++ flat d k, lt a.1 e.1 = true := by
          intro a ha
          have := (List.pairwise_append.1 hs).2.2 a ha x (by rw [q1]; simp [iright])
          rw [q2] at this; exact this
        have e4 : ileft (as.map (flat d)) la ++ flat d k ++ iright (x :: r) ((b :: bs).map (flat d)) = (ileft (as.map (flat d)) la ++ flat d k) ++ x :: (flat d b ++ iright r (bs.map (flat d))) := by simp [iright]
        have e5 : flat (d + 1) (.mk (la ++ e :: r) t.ks) = (ileft (as.map (flat d)) la ++ flat d k) ++ e :: (flat d b ++ iright r (bs.map (flat d))) := by
          rw [e1, flat_split hasl]; simp [iright]
        refine ⟨?_, ?_, ⟨?_, h2⟩⟩
        · rw [e4, e5, lput_at q2 hmid]
        · rw [e4]
          have := (hit_at (A := ileft (as.map (flat d)) la ++ flat d k) (x := x) (B := flat d b ++ iright r (bs.map (flat d))) (by rw [q2]; exact hmid)).2
          rw [q2] at this; exact this.symm
        · show t.ks.length = (la ++ e :: r).length + 1
          rw [h1, hl, q1]; simp
    | false =>
      have hgt := srt_drop hsl hh
      rw [hi0, hlb] at hgt
      have hB := iright_gt hsB hgt
      obtain ⟨i1, i2, i3⟩ := put_flat d k e hwk hsK
      obtain ⟨r, hr⟩ : ∃ r, put d k e = r := ⟨_, rfl⟩
      rw [hr] at i1 i2 i3
      have hput : put (d + 1) t e = if 7 < r.1.l.length then (.mk (ins t.l i (mid r.1)) (ins (t.ks.set i (lo r.1)) (i + 1) (hi r.1)), r.2) else (.mk t.l (t.ks.set i r.1), r.2) := by
        simp only [put, hh, Bool.false_eq_true, if_false, hi0, hk, hr]
      have hhit : hit (flat (d + 1) t) e.1 = r.2 := by rw [hfl, (hit_mid hA hB).2, i2]
      have hlp : lput (flat (d + 1) t) e = ileft (as.map (flat d)) la ++ flat d r.1 ++ iright lb (bs.map (flat d)) := by rw [hfl, lput_mid hA hB, i1]
      rw [hput]
      split
      · rename_i h7
        obtain ⟨j1, j2, j3⟩ := halves_flat i3 (by omega)
        have q1 : ins t.l i (mid r.1) = la ++ mid r.1 :: lb := by rw [hl, ins_split hlal]
        have q2 : ins (t.ks.set i (lo r.1)) (i + 1) (hi r.1) = as ++ lo r.1 :: hi r.1 :: bs := by rw [e1, set_split e2, ins_split1 e2]
        rw [q1, q2, hhit, hlp]
        refine ⟨?_, rfl, ⟨?_, ?_⟩⟩
        · rw [flat_split hasl, j1]; simp [iright]
        · simp; omega
        · intro x hx
          simp only [T.ks_mk, List.mem_append, List.mem_cons] at hx
          rcases hx with hx | rfl | rfl | hx
          · exact h2 x (by rw [e1]; simp [hx])
          · exact j2
          · exact j3
          · exact h2 x (by rw [e1]; simp [hx])
      · have q2 : t.ks.set i r.1 = as ++ r.1 :: bs := by rw [e1, set_split e2]
        rw [q2, hhit, hlp]
        refine ⟨?_, rfl, ⟨?_, ?_⟩⟩
        · rw [hl, flat_split hasl]
        · simp [hl]; omega
        · intro x hx
          simp only [T.ks_mk, List.mem_append, List.mem_cons] at hx
          rcases hx with hx | rfl | hx
          · exact h2 x (by rw [e1]; simp [hx])
          · exact i3
          · exact h2 x (by rw [e1]; simp [hx])

theorem kids_take {d : Nat} {t : T} (h : Kids d t) {l : List En} (n : Nat) : Kids d (.mk l (t.ks.take n)) := by
  cases d with
  | zero => trivial
  | succ d => exact fun k hk => h k (List.mem_of_mem_take hk)
theorem kids_drop {d : Nat} {t : T} (h : Kids d t) {l : List En} (n : Nat) : Kids d (.mk l (t.ks.drop n)) := by
  cases d with
  | zero => trivial
  | succ d => exact fun k hk => h k (List.mem_of_mem_drop hk)
theorem mem_ins {α : Type} {l : List α} {i : Nat} {x y : α} (h : y ∈ ins l i x) : y = x ∨ y ∈ l := by
  unfold ins at h
  rcases List.mem_append.1 h with h | h
  · exact .inr (List.mem_of_mem_take h)
  · rcases List.mem_cons.1 h with h | h
    · exact .inl h
    · exact .inr (List.mem_of_mem_drop h)
theorem put_size : ∀ (d : Nat) (t : T) (e : En), Kids d t → (t.l.length ≤ (put d t e).1.l.length ∧ (put d t e).1.l.length ≤ t.l.length + 1) ∧ Kids d (put d t e).1
  | 0, t, e, _ => by
    have hp := pos_le t.l e.1
    simp only [put]
    split
    · exact ⟨by simp, trivial⟩
    · refine ⟨?_, trivial⟩
      simp only [T.l_mk, ins_length hp]; omega
  | d + 1, t, e, hk => by
    have hp := pos_le t.l e.1
    simp only [put]
    split
    · exact ⟨by simp, hk⟩
    · split
      · exact ⟨by simp, hk⟩
      · rename_i k hkk
        have hsz : Sz d k := hk k (List.mem_of_getElem? hkk)
        obtain ⟨⟨s1, s2⟩, s3⟩ := sz_iff.1 hsz
        obtain ⟨⟨p1, p2⟩, p3⟩ := put_size d k e s3
        obtain ⟨r, hr⟩ : ∃ r, (put d k e).1 = r := ⟨_, rfl⟩
        rw [hr] at p1 p2 p3 ⊢
        split
        · rename_i h7
          refine ⟨by simp only [T.l_mk, ins_length hp]; omega, ?_⟩
          have hhalf : half r = 4 := by unfold half; omega
          intro x hx
          rcases mem_ins hx with rfl | hx
          · exact sz_iff.2 ⟨by show 3 ≤ (r.l.drop (half r + 1)).length ∧ (r.l.drop (half r + 1)).length ≤ 7; rw [List.length_drop, hhalf]; omega, kids_drop p3 _⟩
          · rcases List.mem_or_eq_of_mem_set hx with hx | rfl
            · exact hk x hx
            · exact sz_iff.2 ⟨by show 3 ≤ (r.l.take (half r)).length ∧ (r.l.take (half r)).length ≤ 7; rw [List.length_take, hhalf]; omega, kids_take p3 _⟩
        · rename_i h7
          refine ⟨by simp, ?_⟩
          intro x hx
          rcases List.mem_or_eq_of_mem_set hx with hx | rfl
          · exact hk x hx
          · exact sz_iff.2 ⟨by omega, p3⟩
end Go.Tr
