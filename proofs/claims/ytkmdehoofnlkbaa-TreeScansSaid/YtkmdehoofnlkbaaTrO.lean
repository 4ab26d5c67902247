/- The tree's nodes as plain data: fill and delete. -/
import Derived.Test.YtkmdehoofnlkbaaTrN
namespace Go.Tr
def kid (t : T) (i : Nat) : T := t.ks.getD i default
def ent (l : List En) (i : Nat) : En := l.getD i default
def rotR (t : T) (i : Nat) : T :=
  .mk (t.l.set (i - 1) (ent (kid t (i - 1)).l ((kid t (i - 1)).l.length - 1)))
    ((t.ks.set (i - 1) (.mk ((kid t (i - 1)).l.take ((kid t (i - 1)).l.length - 1)) (if (kid t i).ks.length = 0 then [] else (kid t (i - 1)).ks.take ((kid t (i - 1)).l.length - 1 + 1)))).set i
      (.mk (ent t.l (i - 1) :: (kid t i).l) (if (kid t i).ks.length = 0 then [] else kid (kid t (i - 1)) ((kid t (i - 1)).l.length - 1 + 1) :: (kid t i).ks)))
def rotL (t : T) (i : Nat) : T :=
  .mk (t.l.set i (ent (kid t (i + 1)).l 0))
    ((t.ks.set i (.mk ((kid t i).l ++ [ent t.l i]) (if (kid t i).ks.length = 0 then [] else (kid t i).ks ++ [kid (kid t (i + 1)) 0]))).set (i + 1)
      (.mk (rm (kid t (i + 1)).l 0) (if (kid t i).ks.length = 0 then [] else rm (kid t (i + 1)).ks 0)))
def join (t : T) (j : Nat) : T := .mk (rm t.l j) ((rm t.ks (j + 1)).set j (.mk ((kid t j).l ++ ent t.l j :: (kid t (j + 1)).l) ((kid t j).ks ++ (kid t (j + 1)).ks)))
def fill (t : T) (i : Nat) : T :=
  if 3 ≤ (kid t i).l.length then t
  else if 0 < i ∧ 3 < (kid t (i - 1)).l.length then rotR t i
  else if i + 1 < t.ks.length ∧ 3 < (kid t (i + 1)).l.length then rotL t i
  else join t (i - 1)
def last : Nat → T → En
  | 0, t => ent t.l (t.l.length - 1)
  | d + 1, t => last d (kid t (t.ks.length - 1))
def del : Nat → T → Ky → T × Bool
  | 0, t, k => if hit t.l k then (.mk (rm t.l (pos t.l k)) t.ks, true) else (t, false)
  | d + 1, t, k =>
    if hit t.l k then (fill (.mk (t.l.set (pos t.l k) (last d (kid t (pos t.l k)))) (t.ks.set (pos t.l k) (del d (kid t (pos t.l k)) (last d (kid t (pos t.l k))).1).1)) (pos t.l k), true)
    else (fill (.mk t.l (t.ks.set (pos t.l k) (del d (kid t (pos t.l k)) k).1)) (pos t.l k), (del d (kid t (pos t.l k)) k).2)

theorem inter_append {e : En} {gs : List (List En)} {m : List En} (hg : gs ≠ []) : ∀ {fs : List (List En)} {l : List En}, fs.length = l.length + 1 → inter (fs ++ gs) (l ++ e :: m) = inter fs l ++ e :: inter gs m
  | [f], [], _ => by
    cases gs with
    | nil => exact absurd rfl hg
    | cons g gs => simp [inter, iright]
  | f :: f2 :: fs, x :: l, h => by
    have ih := inter_append (e := e) (m := m) hg (fs := f2 :: fs) (l := l) (by simpa using h)
    show f ++ (x :: inter ((f2 :: fs) ++ gs) (l ++ e :: m)) = f ++ (x :: inter (f2 :: fs) l) ++ e :: inter gs m
    rw [ih]; simp
  | [], l, h => by simp at h
  | [f], x :: l, h => by simp at h
  | f :: f2 :: fs, [], h => by simp at h
theorem flat_append {d : Nat} {la lb : List En} {e : En} {as bs : List T} (h : as.length = la.length + 1) (hb : bs.length = lb.length + 1) : flat (d + 1) (.mk (la ++ e :: lb) (as ++ bs)) = flat (d + 1) (.mk la as) ++ e :: flat (d + 1) (.mk lb bs) := by
  simp only [flat, T.ks_mk, T.l_mk, List.map_append]
  exact inter_append (by intro q; have := congrArg List.length q; rw [List.length_map] at this; simp only [List.length_nil] at this; omega) (by simp [h])
theorem flat_one {d : Nat} {k : T} : flat (d + 1) (.mk [] [k]) = flat d k := by simp [flat, inter, iright]
/-- Parted at two neighbours. -/
theorem flat_split2 {d : Nat} {la lb : List En} {e : En} {as bs : List T} {a b : T} (h : as.length = la.length) :
    flat (d + 1) (.mk (la ++ e :: lb) (as ++ a :: b :: bs)) = ileft (as.map (flat d)) la ++ (flat d a ++ e :: flat d b) ++ iright lb (bs.map (flat d)) := by
  rw [flat_split h]; simp [iright]
theorem take_last {α : Type} [Inhabited α] {l : List α} {n : Nat} (h : l.length = n + 1) : l = l.take n ++ [l.getD n default] := by
  have hn : n < l.length := by omega
  have h1 := List.take_append_drop n l
  rw [List.drop_eq_getElem_cons hn, List.drop_eq_nil_of_le (by omega)] at h1
  rw [List.getD, List.getElem?_eq_getElem hn]
  exact h1.symm
theorem head_rm {α : Type} [Inhabited α] {l : List α} (h : 0 < l.length) : l = l.getD 0 default :: rm l 0 := by
  cases l with
  | nil => simp at h
  | cons a l => simp [rm]
theorem rotR_flat {d : Nat} {a b : T} (e : En) (ha : WF d a) (hb : WF d b) (hl : 0 < a.l.length) :
    flat d (.mk (a.l.take (a.l.length - 1)) (if b.ks.length = 0 then [] else a.ks.take (a.l.length - 1 + 1))) ++ ent a.l (a.l.length - 1) :: flat d (.mk (e :: b.l) (if b.ks.length = 0 then [] else kid a (a.l.length - 1 + 1) :: b.ks)) = flat d a ++ e :: flat d b ∧
    WF d (.mk (a.l.take (a.l.length - 1)) (if b.ks.length = 0 then [] else a.ks.take (a.l.length - 1 + 1))) ∧ WF d (.mk (e :: b.l) (if b.ks.length = 0 then [] else kid a (a.l.length - 1 + 1) :: b.ks)) := by
  have hal : a.l = a.l.take (a.l.length - 1) ++ [ent a.l (a.l.length - 1)] := take_last (by omega)
  cases d with
  | zero =>
    have hb0 : b.ks = [] := hb
    rw [hb0]
    refine ⟨?_, rfl, rfl⟩
    show a.l.take _ ++ ent a.l _ :: (e :: b.l) = a.l ++ e :: b.l
    conv => rhs; rw [hal]
    simp
  | succ d =>
    obtain ⟨h1, h2⟩ := ha
    obtain ⟨h3, h4⟩ := hb
    rw [if_neg (by omega), if_neg (by omega)]
    obtain ⟨n, hn⟩ : ∃ n, a.l.length - 1 = n := ⟨_, rfl⟩
    rw [hn] at hal ⊢
    have hak : a.ks = a.ks.take (n + 1) ++ [kid a (n + 1)] := take_last (by omega)
    have h5 : (a.ks.take (n + 1)).length = (a.l.take n).length + 1 := by simp; omega
    refine ⟨?_, ⟨h5, fun k hk => h2 k (List.mem_of_mem_take hk)⟩, ⟨by simp [h3], ?_⟩⟩
    · have e1 : flat (d + 1) a = flat (d + 1) (.mk (a.l.take n) (a.ks.take (n + 1))) ++ ent a.l n :: flat d (kid a (n + 1)) := by
        have := flat_append (d := d) (la := a.l.take n) (lb := []) (e := ent a.l n) (as := a.ks.take (n + 1)) (bs := [kid a (n + 1)]) h5 rfl
        rw [← hal, ← hak, T.eta, flat_one] at this; exact this
      have e2 : flat (d + 1) (.mk (e :: b.l) (kid a (n + 1) :: b.ks)) = flat d (kid a (n + 1)) ++ e :: flat (d + 1) b := by
        have := flat_append (d := d) (la := []) (lb := b.l) (e := e) (as := [kid a (n + 1)]) (bs := b.ks) rfl h3
        rw [T.eta, flat_one] at this; exact this
      rw [e1, e2]; simp
    · intro k hk
      rcases List.mem_cons.1 hk with rfl | hk
      · exact h2 _ (by rw [hak]; simp)
      · exact h4 k hk
theorem rotL_flat {d : Nat} {b c : T} (e : En) (hb : WF d b) (hc : WF d c) (hl : 0 < c.l.length) :
    flat d (.mk (b.l ++ [e]) (if b.ks.length = 0 then [] else b.ks ++ [kid c 0])) ++ ent c.l 0 :: flat d (.mk (rm c.l 0) (if b.ks.length = 0 then [] else rm c.ks 0)) = flat d b ++ e :: flat d c ∧
    WF d (.mk (b.l ++ [e]) (if b.ks.length = 0 then [] else b.ks ++ [kid c 0])) ∧ WF d (.mk (rm c.l 0) (if b.ks.length = 0 then [] else rm c.ks 0)) := by
  have hcl : c.l = ent c.l 0 :: rm c.l 0 := head_rm hl
  cases d with
  | zero =>
    have hb0 : b.ks = [] := hb
    rw [hb0]
    refine ⟨?_, rfl, rfl⟩
    show (b.l ++ [e]) ++ ent c.l 0 :: rm c.l 0 = b.l ++ e :: c.l
    rw [← hcl]; simp
  | succ d =>
    obtain ⟨h1, h2⟩ := hb
    obtain ⟨h3, h4⟩ := hc
    rw [if_neg (by omega), if_neg (by omega)]
    have hck : c.ks = kid c 0 :: rm c.ks 0 := head_rm (by omega)
    have h5 : (rm c.ks 0).length = (rm c.l 0).length + 1 := by rw [rm_length (by omega), rm_length (by omega)]; omega
    refine ⟨?_, ⟨by simp [h1], ?_⟩, ⟨h5, fun k hk => h4 k (by rw [hck]; simp [show k ∈ rm c.ks 0 from hk])⟩⟩
    · have e1 : flat (d + 1) (.mk (b.l ++ [e]) (b.ks ++ [kid c 0])) = flat (d + 1) b ++ e :: flat d (kid c 0) := by
        have := flat_append (d := d) (la := b.l) (lb := []) (e := e) (as := b.ks) (bs := [kid c 0]) h1 rfl
        rw [T.eta, flat_one] at this; exact this
      have e2 : flat (d + 1) c = flat d (kid c 0) ++ ent c.l 0 :: flat (d + 1) (.mk (rm c.l 0) (rm c.ks 0)) := by
        have := flat_append (d := d) (la := []) (lb := rm c.l 0) (e := ent c.l 0) (as := [kid c 0]) (bs := rm c.ks 0) rfl h5
        rw [List.nil_append, ← hcl, List.singleton_append, ← hck, T.eta, flat_one] at this; exact this
      rw [e1, e2]; simp
    · intro k hk
      rcases List.mem_append.1 hk with hk | hk
      · exact h2 k hk
      · simp at hk; rw [hk]; exact h4 _ (by rw [hck]; simp)
theorem join_flat {d : Nat} {a b : T} (e : En) (ha : WF d a) (hb : WF d b) : flat d (.mk (a.l ++ e :: b.l) (a.ks ++ b.ks)) = flat d a ++ e :: flat d b ∧ WF d (.mk (a.l ++ e :: b.l) (a.ks ++ b.ks)) := by
  cases d with
  | zero =>
    have ha0 : a.ks = [] := ha
    have hb0 : b.ks = [] := hb
    rw [ha0, hb0]; exact ⟨rfl, rfl⟩
  | succ d =>
    obtain ⟨h1, h2⟩ := ha
    obtain ⟨h3, h4⟩ := hb
    refine ⟨?_, ⟨by simp; omega, ?_⟩⟩
    · rw [flat_append h1 h3, T.eta, T.eta]
    · intro k hk
      rcases List.mem_append.1 hk with hk | hk
      · exact h2 k hk
      · exact h4 k hk
theorem getD_split {α : Type} [Inhabited α] {as bs : List α} {k : α} {i : Nat} (h : as.length = i) : (as ++ k :: bs).getD i default = k := by
  rw [List.getD, get_split h]; rfl
theorem getD_split1 {α : Type} [Inhabited α] {as bs : List α} {k x : α} {i : Nat} (h : as.length = i) : (as ++ k :: x :: bs).getD (i + 1) default = x := by
  have := getD_split (as := as ++ [k]) (bs := bs) (k := x) (i := i + 1) (by simp [h])
  simpa using this
theorem set_split1 {α : Type} {as bs : List α} {k x y : α} {i : Nat} (h : as.length = i) : (as ++ k :: x :: bs).set (i + 1) y = as ++ k :: y :: bs := by
  have := set_split (as := as ++ [k]) (bs := bs) (k := x) (x := y) (i := i + 1) (by simp [h])
  simpa using this
theorem rm_split1 {α : Type} {as bs : List α} {k x : α} {i : Nat} (h : as.length = i) : rm (as ++ k :: x :: bs) (i + 1) = as ++ k :: bs := by
  have := rm_split (as := as ++ [k]) (bs := bs) (k := x) (i := i + 1) (by simp [h])
  simpa using this
/-- Parted at two neighbours. -/
theorem split2 {d : Nat} {t : T} (hw : WF (d + 1) t) {j : Nat} (hj : j < t.l.length) : ∃ la e lb as a b bs, t = .mk (la ++ e :: lb) (as ++ a :: b :: bs) ∧ la.length = j ∧ as.length = j ∧ bs.length = lb.length := by
  obtain ⟨h1, _⟩ := hw
  have hj1 : j < t.ks.length := by omega
  have hj2 : j + 1 < t.ks.length := by omega
  refine ⟨t.l.take j, t.l[j], t.l.drop (j + 1), t.ks.take j, t.ks[j], t.ks[j + 1], t.ks.drop (j + 2), ?_, by simp; omega, by simp; omega, by simp; omega⟩
  rw [← List.drop_eq_getElem_cons hj, List.take_append_drop, ← List.drop_eq_getElem_cons hj2, ← List.drop_eq_getElem_cons hj1, List.take_append_drop, T.eta]
/-- What filling leaves as it was, and what it mends. -/
structure Filled (d : Nat) (t t' : T) : Prop where
  flat : flat (d + 1) t' = flat (d + 1) t
  wf : WF (d + 1) t'
  kids : Kids (d + 1) t'
  len : t.l.length ≤ t'.l.length + 1 ∧ t'.l.length ≤ t.l.length
theorem two_filled {d : Nat} {la lb : List En} {e e' : En} {as bs : List T} {a b a' b' : T} (h : as.length = la.length) (hbs : bs.length = lb.length) (hw : WF (d + 1) (.mk (la ++ e :: lb) (as ++ a :: b :: bs)))
    (hk : ∀ x, x ∈ as ∨ x ∈ bs → Sz d x) (hf : flat d a' ++ e' :: flat d b' = flat d a ++ e :: flat d b) (wa : WF d a') (wb : WF d b') (sa : Sz d a') (sb : Sz d b') : Filled d (.mk (la ++ e :: lb) (as ++ a :: b :: bs)) (.mk (la ++ e' :: lb) (as ++ a' :: b' :: bs)) := by
  refine ⟨by rw [flat_split2 h, flat_split2 h, hf], ⟨by simp; omega, ?_⟩, ?_, by simp⟩
  · intro x hx
    simp only [T.ks_mk, List.mem_append, List.mem_cons] at hx
    rcases hx with hx | rfl | rfl | hx
    · exact hw.2 x (by simp [hx])
    · exact wa
    · exact wb
    · exact hw.2 x (by simp [hx])
  · intro x hx
    simp only [T.ks_mk, List.mem_append, List.mem_cons] at hx
    rcases hx with hx | rfl | rfl | hx
    · exact hk x (.inl hx)
    · exact sa
    · exact sb
    · exact hk x (.inr hx)
theorem join_filled {d : Nat} {la lb : List En} {e : En} {as bs : List T} {a b w : T} (h : as.length = la.length) (hbs : bs.length = lb.length) (hw : WF (d + 1) (.mk (la ++ e :: lb) (as ++ a :: b :: bs)))
    (hk : ∀ x, x ∈ as ∨ x ∈ bs → Sz d x) (hf : flat d w = flat d a ++ e :: flat d b) (wa : WF d w) (sa : Sz d w) : Filled d (.mk (la ++ e :: lb) (as ++ a :: b :: bs)) (.mk (la ++ lb) (as ++ w :: bs)) := by
  refine ⟨by rw [flat_split2 h, flat_split h, hf], ⟨by simp; omega, ?_⟩, ?_, by simp; omega⟩
  · intro x hx
    simp only [T.ks_mk, List.mem_append, List.mem_cons] at hx
    rcases hx with hx | rfl | hx
    · exact hw.2 x (by simp [hx])
    · exact wa
    · exact hw.2 x (by simp [hx])
  · intro x hx
    simp only [T.ks_mk, List.mem_append, List.mem_cons] at hx
    rcases hx with hx | rfl | hx
    · exact hk x (.inl hx)
    · exact sa
    · exact hk x (.inr hx)
theorem kids_cut {d : Nat} {a : T} (h : Kids d a) {l : List En} {n : Nat} {c : Prop} [Decidable c] : Kids d (.mk l (if c then [] else a.ks.take n)) := by
  split
  · cases d with
    | zero => trivial
    | succ d => intro k hk; simp at hk
  · exact kids_take h n
theorem kids_of {d : Nat} {l : List En} {ks : List T} (h : ∀ d', d = d' + 1 → ∀ k ∈ ks, Sz d' k) : Kids d (.mk l ks) := by
  cases d with
  | zero => trivial
  | succ d => exact h d rfl
theorem kids_get {d' : Nat} {a : T} (h : Kids (d' + 1) a) {i : Nat} (hi : i < a.ks.length) : Sz d' (kid a i) := by
  have : kid a i = a.ks[i] := by simp [kid, List.getD, List.getElem?_eq_getElem hi]
  rw [this]; exact h _ (List.getElem_mem hi)
theorem fill_ok {d : Nat} {t : T} {i : Nat} (hw : WF (d + 1) t) (hi : i < t.ks.length) (hl : 1 ≤ t.l.length) (hk : ∀ j x, j ≠ i → t.ks[j]? = some x → Sz d x) (h2 : 2 ≤ (kid t i).l.length ∧ (kid t i).l.length ≤ 7) (hki : Kids d (kid t i)) : Filled d t (fill t i) := by
  have hlen := hw.1
  unfold fill
  split
  · rename_i h3
    refine ⟨rfl, hw, fun x hx => ?_, by omega⟩
    obtain ⟨j, hj⟩ := List.getElem?_of_mem hx
    by_cases e : j = i
    · subst e
      have : kid t j = x := by simp [kid, List.getD, hj]
      rw [← this]; exact sz_iff.2 ⟨⟨h3, h2.2⟩, hki⟩
    · exact hk j x e hj
  rename_i h3
  have hk2 : (kid t i).l.length = 2 := by omega
  split
  · -- from the left
    rename_i hc
    obtain ⟨h0, h4⟩ := hc
    obtain ⟨j, rfl⟩ : ∃ j, i = j + 1 := ⟨i - 1, by omega⟩
    obtain ⟨la, e, lb, as, a, b, bs, rfl, hla, has, hbs⟩ := split2 hw (j := j) (by omega)
    rw [Nat.add_sub_cancel] at h4
    have ka : kid (.mk (la ++ e :: lb) (as ++ a :: b :: bs)) j = a := getD_split has
    have kb : kid (.mk (la ++ e :: lb) (as ++ a :: b :: bs)) (j + 1) = b := getD_split1 has
    have ee : ent (la ++ e :: lb) j = e := getD_split hla
    rw [ka] at h4
    rw [kb] at hk2 hki
    have wa : WF d a := hw.2 a (by simp)
    have wb : WF d b := hw.2 b (by simp)
    have sa : Sz d a := hk j a (by omega) (get_split has)
    obtain ⟨⟨s1, s2⟩, s3⟩ := sz_iff.1 sa
    obtain ⟨f1, f2, f3⟩ := rotR_flat e wa wb (by omega)
    have hkk : ∀ x, x ∈ as ∨ x ∈ bs → Sz d x := by
      rintro x (hx | hx)
      · obtain ⟨n, hn⟩ := List.getElem?_of_mem hx
        have := (List.getElem?_eq_some_iff.1 hn).1
        exact hk n x (by omega) (by show (as ++ a :: b :: bs)[n]? = _; rw [List.getElem?_append_left this]; exact hn)
      · obtain ⟨n, hn⟩ := List.getElem?_of_mem hx
        exact hk (j + 2 + n) x (by omega) (by show (as ++ a :: b :: bs)[j + 2 + n]? = _; rw [List.getElem?_append_right (by omega), has, show j + 2 + n - j = n + 1 + 1 by omega]; simpa using hn)
    have hr : rotR (.mk (la ++ e :: lb) (as ++ a :: b :: bs)) (j + 1) = .mk (la ++ ent a.l (a.l.length - 1) :: lb) (as ++ .mk (a.l.take (a.l.length - 1)) (if b.ks.length = 0 then [] else a.ks.take (a.l.length - 1 + 1)) :: .mk (e :: b.l) (if b.ks.length = 0 then [] else kid a (a.l.length - 1 + 1) :: b.ks) :: bs) := by
      simp only [rotR, Nat.add_sub_cancel, ka, kb, T.l_mk, T.ks_mk, ee]
      rw [set_split hla, set_split has, set_split1 has]
    rw [hr]
    refine two_filled (by omega) hbs hw hkk f1 f2 f3 (sz_iff.2 ⟨by simp; omega, kids_cut s3⟩) (sz_iff.2 ⟨by simp; omega, kids_of fun d' hd x hx => ?_⟩)
    subst hd
    split at hx
    · simp at hx
    · rcases List.mem_cons.1 hx with rfl | hx
      · exact kids_get s3 (by have := wa.1; omega)
      · exact hki x hx
  rename_i hc1
  split
  · -- from the right
    rename_i hc
    obtain ⟨h0, h4⟩ := hc
    obtain ⟨la, e, lb, as, a, b, bs, rfl, hla, has, hbs⟩ := split2 hw (j := i) (by omega)
    have ka : kid (.mk (la ++ e :: lb) (as ++ a :: b :: bs)) i = a := getD_split has
    have kb : kid (.mk (la ++ e :: lb) (as ++ a :: b :: bs)) (i + 1) = b := getD_split1 has
    have ee : ent (la ++ e :: lb) i = e := getD_split hla
    rw [kb] at h4
    rw [ka] at hk2 hki
    have wa : WF d a := hw.2 a (by simp)
    have wb : WF d b := hw.2 b (by simp)
    have sb : Sz d b := hk (i + 1) b (by omega) (by show (as ++ a :: b :: bs)[i + 1]? = _; rw [List.getElem?_append_right (by omega), has, show i + 1 - i = 0 + 1 by omega]; rfl)
    obtain ⟨⟨s1, s2⟩, s3⟩ := sz_iff.1 sb
    obtain ⟨f1, f2, f3⟩ := rotL_flat e wa wb (by omega)
    have hkk : ∀ x, x ∈ as ∨ x ∈ bs → Sz d x := by
      rintro x (hx | hx)
      · obtain ⟨n, hn⟩ := List.getElem?_of_mem hx
        have := (List.getElem?_eq_some_iff.1 hn).1
        exact hk n x (by omega) (by show (as ++ a :: b :: bs)[n]? = _; rw [List.getElem?_append_left this]; exact hn)
      · obtain ⟨n, hn⟩ := List.getElem?_of_mem hx
        exact hk (i + 2 + n) x (by omega) (by show (as ++ a :: b :: bs)[i + 2 + n]? = _; rw [List.getElem?_append_right (by omega), has, show i + 2 + n - i = n + 1 + 1 by omega]; simpa using hn)
    have hr : rotL (.mk (la ++ e :: lb) (as ++ a :: b :: bs)) i = .mk (la ++ ent b.l 0 :: lb) (as ++ .mk (a.l ++ [e]) (if a.ks.length = 0 then [] else a.ks ++ [kid b 0]) :: .mk (rm b.l 0) (if a.ks.length = 0 then [] else rm b.ks 0) :: bs) := by
      simp only [rotL, ka, kb, T.l_mk, T.ks_mk, ee]
      rw [set_split hla, set_split has, set_split1 has]
    rw [hr]
    refine two_filled (by omega) hbs hw hkk f1 f2 f3 (sz_iff.2 ⟨by simp; omega, kids_of fun d' hd x hx => ?_⟩) (sz_iff.2 ⟨by simp only [T.l_mk, rm_length (show 0 < b.l.length by omega)]; omega, kids_of fun d' hd x hx => ?_⟩)
    · subst hd
      split at hx
      · simp at hx
      · rcases List.mem_append.1 hx with hx | hx
        · exact hki x hx
        · simp at hx; rw [hx]; exact kids_get s3 (by have := wb.1; omega)
    · subst hd
      split at hx
      · simp at hx
      · unfold rm at hx
        simp at hx
        exact s3 x (List.mem_of_mem_drop (i := 1) (by simpa using hx))
  · -- together
    rename_i hc2
    have hj : i - 1 < t.l.length := by omega
    obtain ⟨j, hj0⟩ : ∃ j, i - 1 = j := ⟨_, rfl⟩
    rw [hj0] at hj ⊢ hc1
    obtain ⟨la, e, lb, as, a, b, bs, rfl, hla, has, hbs⟩ := split2 hw hj
    have ka : kid (.mk (la ++ e :: lb) (as ++ a :: b :: bs)) j = a := getD_split has
    have kb : kid (.mk (la ++ e :: lb) (as ++ a :: b :: bs)) (j + 1) = b := getD_split1 has
    have ee : ent (la ++ e :: lb) j = e := getD_split hla
    have ga : (as ++ a :: b :: bs)[j]? = some a := get_split has
    have gb : (as ++ a :: b :: bs)[j + 1]? = some b := by rw [List.getElem?_append_right (by omega), has, show j + 1 - j = 0 + 1 by omega]; rfl
    have wa : WF d a := hw.2 a (by simp)
    have wb : WF d b := hw.2 b (by simp)
    -- one of both is kid i, the other has three entries
    have hab : a.l.length + b.l.length = 5 ∧ Kids d a ∧ Kids d b := by
      by_cases h0 : 0 < i
      · obtain rfl : i = j + 1 := by omega
        have sa : Sz d a := hk j a (by omega) ga
        obtain ⟨⟨s1, s2⟩, s3⟩ := sz_iff.1 sa
        rw [ka] at hc1
        rw [kb] at hk2 hki
        have : ¬ 3 < a.l.length := fun q => hc1 ⟨h0, q⟩
        exact ⟨by omega, s3, hki⟩
      · obtain rfl : i = j := by omega
        have sb : Sz d b := hk (i + 1) b (by omega) gb
        obtain ⟨⟨s1, s2⟩, s3⟩ := sz_iff.1 sb
        rw [kb] at hc2
        rw [ka] at hk2 hki
        have : ¬ 3 < b.l.length := fun q => hc2 ⟨by rw [hlen]; simp; omega, q⟩
        exact ⟨by omega, hki, s3⟩
    have hkk : ∀ x, x ∈ as ∨ x ∈ bs → Sz d x := by
      rintro x (hx | hx)
      · obtain ⟨n, hn⟩ := List.getElem?_of_mem hx
        have := (List.getElem?_eq_some_iff.1 hn).1
        exact hk n x (by omega) (by show (as ++ a :: b :: bs)[n]? = _; rw [List.getElem?_append_left this]; exact hn)
      · obtain ⟨n, hn⟩ := List.getElem?_of_mem hx
        exact hk (j + 2 + n) x (by omega) (by show (as ++ a :: b :: bs)[j + 2 + n]? = _; rw [List.getElem?_append_right (by omega), has, show j + 2 + n - j = n + 1 + 1 by omega]; simpa using hn)
    obtain ⟨f1, f2⟩ := join_flat e wa wb
    have hr : join (.mk (la ++ e :: lb) (as ++ a :: b :: bs)) j = .mk (la ++ lb) (as ++ .mk (a.l ++ e :: b.l) (a.ks ++ b.ks) :: bs) := by
      simp only [join, ka, kb, T.l_mk, T.ks_mk, ee]
      rw [rm_split hla, rm_split1 has, set_split has]
    rw [hr]
    refine join_filled (by omega) hbs hw hkk f1 f2 (sz_iff.2 ⟨by simp; omega, kids_of fun d' hd x hx => ?_⟩)
    subst hd
    rcases List.mem_append.1 hx with hx | hx
    · exact hab.2.1 x hx
    · exact hab.2.2 x hx
end Go.Tr
