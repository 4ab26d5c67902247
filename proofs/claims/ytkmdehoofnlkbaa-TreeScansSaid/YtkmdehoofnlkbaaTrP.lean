/- The tree as plain data: delete; a map; how deep it is; scans. -/
import Derived.Test.YtkmdehoofnlkbaaTrO
namespace Go.Tr
theorem last_flat : ∀ (d : Nat) (t : T), WF d t → 1 ≤ t.l.length → Kids d t → ∃ A, flat d t = A ++ [last d t]
  | 0, t, _, h, _ => by
    show ∃ A, t.l = A ++ [ent t.l (t.l.length - 1)]
    exact ⟨_, take_last (by omega)⟩
  | d + 1, t, hw, h, hk => by
    have h1 := hw.1
    have hks : t.ks = t.ks.take (t.ks.length - 1) ++ [kid t (t.ks.length - 1)] := take_last (by omega)
    have hm : kid t (t.ks.length - 1) ∈ t.ks := by rw [hks]; simp
    obtain ⟨⟨s1, s2⟩, s3⟩ := sz_iff.1 (hk _ hm)
    obtain ⟨A, hA⟩ := last_flat d (kid t (t.ks.length - 1)) (hw.2 _ hm) (by omega) s3
    have := flat_split (d := d) (la := t.l) (lb := []) (as := t.ks.take (t.ks.length - 1)) (bs := []) (k := kid t (t.ks.length - 1)) (by simp; omega)
    rw [List.append_nil, ← hks, T.eta] at this
    refine ⟨ileft ((t.ks.take (t.ks.length - 1)).map (flat d)) t.l ++ A, ?_⟩
    rw [this, hA]
    simp [iright, last]
structure DelOk (d : Nat) (t : T) (k : Ky) (r : T × Bool) : Prop where
  flat : flat d r.1 = ldel (flat d t) k
  was : r.2 = hit (Tr.flat d t) k
  wf : WF d r.1
  kids : Kids d r.1
  len : t.l.length ≤ r.1.l.length + 1 ∧ r.1.l.length ≤ t.l.length
theorem del_ok : ∀ (d : Nat) (t : T) (k : Ky), WF d t → Srt (flat d t) → Kids d t → (d ≠ 0 → 1 ≤ t.l.length) → DelOk d t k (del d t k)
  | 0, t, k, hw, hs, _, _ => by
    have h0 : t.ks = [] := hw
    simp only [del]
    cases hh : hit t.l k with
    | true =>
      rw [if_pos rfl]
      have hlt := hit_lt hh
      exact ⟨by simp [flat, ldel, hh], hh.symm, h0, trivial, by simp [rm_length hlt]; omega⟩
    | false =>
      rw [if_neg (by simp)]
      exact ⟨by simp [flat, ldel, hh], hh.symm, h0, trivial, by simp⟩
  | d + 1, t, key, hw, hs, hks, hl1 => by
    have hl1 := hl1 (by omega)
    obtain ⟨h1, h2⟩ := hw
    have hsl := srt_l (d := d + 1) ⟨h1, h2⟩ hs
    have hp := pos_le t.l key
    obtain ⟨k, hk⟩ : ∃ k, t.ks[pos t.l key]? = some k := ⟨_, List.getElem?_eq_getElem (by omega)⟩
    obtain ⟨e1, e2⟩ := split_kid hk
    obtain ⟨i, hi0⟩ : ∃ i, pos t.l key = i := ⟨_, rfl⟩
    obtain ⟨la, hla⟩ : ∃ la, t.l.take i = la := ⟨_, rfl⟩
    obtain ⟨lb, hlb⟩ : ∃ lb, t.l.drop i = lb := ⟨_, rfl⟩
    obtain ⟨as, has⟩ : ∃ as, t.ks.take i = as := ⟨_, rfl⟩
    obtain ⟨bs, hbs⟩ : ∃ bs, t.ks.drop (i + 1) = bs := ⟨_, rfl⟩
    have hl : t.l = la ++ lb := by rw [← hla, ← hlb, List.take_append_drop]
    have hlal : la.length = i := by rw [← hla]; simp; omega
    have htk := srt_take hsl key
    rw [hi0] at hk e1 e2 hp htk
    rw [hla] at htk
    rw [has] at e2
    rw [has, hbs] at e1
    have hkid : kid t i = k := by simp [kid, List.getD, hk]
    have ht : t = .mk (la ++ lb) (as ++ k :: bs) := by rw [← hl, ← e1, T.eta]
    have hfl : flat (d + 1) t = ileft (as.map (flat d)) la ++ flat d k ++ iright lb (bs.map (flat d)) := by rw [ht]; exact flat_split (by rw [e2, hlal])
    rw [hfl] at hs
    have hsA : Srt (ileft (as.map (flat d)) la) := srt_left (srt_left hs)
    have hsK : Srt (flat d k) := srt_right (srt_left hs)
    have hsB : Srt (iright lb (bs.map (flat d))) := srt_right hs
    have hA := ileft_lt hsA htk
    have hkm : k ∈ t.ks := by rw [e1]; simp
    have hwk : WF d k := h2 k hkm
    obtain ⟨⟨s1, s2⟩, s3⟩ := sz_iff.1 (hks k hkm)
    have hasl : as.length = la.length := by rw [e2, hlal]
    have hbl : bs.length = lb.length := by
      have h3 := h1
      rw [e1, hl] at h3
      simp only [List.length_append, List.length_cons] at h3; omega
    have hother : ∀ (l' : List En) (K : T) (j : Nat) (x : T), j ≠ i → (T.mk l' (t.ks.set i K)).ks[j]? = some x → Sz d x := by
      intro l' K j x hj hx
      rw [T.ks_mk, List.getElem?_set_ne (Ne.symm hj)] at hx
      exact hks x (List.mem_of_getElem? hx)
    have hkidset : ∀ (l' : List En) (K : T), kid (.mk l' (t.ks.set i K)) i = K := fun l' K => by
      show (t.ks.set i K).getD i default = K
      rw [List.getD, List.getElem?_set_self (by omega)]; rfl
    have hsetw : ∀ (l' : List En) (K : T), l'.length = t.l.length → WF d K → WF (d + 1) (.mk l' (t.ks.set i K)) := fun l' K hl' hK => by
      refine ⟨by simp [h1, hl'], fun x hx => ?_⟩
      rcases List.mem_or_eq_of_mem_set hx with hx | rfl
      · exact h2 x hx
      · exact hK
    simp only [del]
    cases hh : hit t.l key with
    | true =>
      rw [if_pos rfl, hi0, hkid]
      obtain ⟨A, hlA⟩ := last_flat d k hwk (by omega) s3
      obtain ⟨e, he⟩ : ∃ e, last d k = e := ⟨_, rfl⟩
      rw [he] at hlA ⊢
      have D := del_ok d k e.1 hwk hsK s3 (fun _ => by omega)
      obtain ⟨K, hK⟩ : ∃ K, (del d k e.1).1 = K := ⟨_, rfl⟩
      have D1 := D.flat
      have D3 := D.wf
      have D4 := D.kids
      have D5 := D.len
      rw [hK] at D1 D3 D4 D5 ⊢
      have hAe : ∀ a ∈ A, lt a.1 e.1 = true := by
        rw [hlA] at hsK
        exact fun a ha => (List.pairwise_append.1 hsK).2.2 a ha e (by simp)
      have hKA : flat d K = A := by
        rw [D1, hlA, ldel_at (B := []) hAe]; simp
      have F := fill_ok (t := .mk (t.l.set i e) (t.ks.set i K)) (i := i) (hsetw _ _ (by simp) D3) (by simp; omega) (by simp; omega) (fun j x hj hx => hother _ K j x hj hx) (by rw [hkidset]; omega) (by rw [hkidset]; exact D4)
      obtain ⟨x, r, q1, q2, q3⟩ := srt_drop_hit hsl hh
      rw [hi0, hlb] at q1
      cases bs with
      | nil => rw [q1] at hbl; simp at hbl
      | cons b bs =>
        have hmid : ∀ a ∈ ileft (as.map (flat d)) la ++ flat d k, lt a.1 x.1 = true := fun a ha => (List.pairwise_append.1 hs).2.2 a ha x (by rw [q1]; simp [iright])
        have e4 : flat (d + 1) t = (ileft (as.map (flat d)) la ++ flat d k) ++ x :: (flat d b ++ iright r (bs.map (flat d))) := by rw [hfl, q1]; simp [iright]
        have hset : t.l.set i e = la ++ e :: r := by rw [hl, q1, set_split hlal]
        have e5 : flat (d + 1) (.mk (t.l.set i e) (t.ks.set i K)) = (ileft (as.map (flat d)) la ++ flat d k) ++ (flat d b ++ iright r (bs.map (flat d))) := by
          rw [hset, e1, set_split e2, flat_split hasl, hKA, hlA]; simp [iright]
        refine ⟨?_, ?_, F.wf, F.kids, ?_⟩
        · rw [F.flat, e5, e4, ← q2, ldel_at hmid]
        · rw [e4, ← q2]; exact ((hit_at hmid).2).symm
        · have := F.len; simpa using this
    | false =>
      rw [if_neg (by simp), hi0, hkid]
      have D := del_ok d k key hwk hsK s3 (fun _ => by omega)
      obtain ⟨K, hK⟩ : ∃ K, del d k key = K := ⟨_, rfl⟩
      rw [hK] at D ⊢
      have hgt := srt_drop hsl hh
      rw [hi0, hlb] at hgt
      have hB := iright_gt hsB hgt
      have D5 := D.len
      have F := fill_ok (t := .mk t.l (t.ks.set i K.1)) (i := i) (hsetw _ _ rfl D.wf) (by simp; omega) hl1 (fun j x hj hx => hother _ K.1 j x hj hx) (by rw [hkidset]; omega) (by rw [hkidset]; exact D.kids)
      refine ⟨?_, ?_, F.wf, F.kids, F.len⟩
      · rw [F.flat, e1, set_split e2, hl, flat_split hasl, D.flat, hfl, ldel_mid hA hB]
      · rw [hfl, (hit_mid hA hB).2]; exact D.was

/-! ### a map -/
structure M where
  root : Option (Nat × T)
  n : Nat
def rflat : Option (Nat × T) → List En
  | none => []
  | some r => flat r.1 r.2
def M.ents (m : M) : List En := rflat m.root
def RootOk : Option (Nat × T) → Prop
  | none => True
  | some r => WF r.1 r.2 ∧ Srt (Tr.flat r.1 r.2) ∧ Kids r.1 r.2 ∧ 1 ≤ r.2.l.length ∧ r.2.l.length ≤ 7
structure M.Ok (m : M) : Prop where
  root : RootOk m.root
  n : m.n = m.ents.length
theorem M.Ok.srt {m : M} (h : m.Ok) : Srt m.ents := by
  obtain ⟨h, _⟩ := h
  unfold M.ents
  cases hm : m.root with
  | none => exact List.Pairwise.nil
  | some r => rw [hm] at h; exact h.2.1
def M.empty : M := ⟨none, 0⟩
theorem M.Ok.empty : M.empty.Ok := ⟨trivial, rfl⟩
/-- Where a put begins. -/
def seed (r : Option (Nat × T)) : Nat × T := r.getD (0, .mk [] [])
def grow (d : Nat) (t : T) : Nat × T := if 7 < t.l.length then (d + 1, .mk [mid t] [lo t, hi t]) else (d, t)
def M.put (m : M) (e : En) : M × Bool :=
  let s := seed m.root
  let p := Tr.put s.1 s.2 e
  (⟨some (grow s.1 p.1), if p.2 then m.n else m.n + 1⟩, p.2)
theorem seed_ok {r : Option (Nat × T)} (h : RootOk r) : WF (seed r).1 (seed r).2 ∧ Srt (flat (seed r).1 (seed r).2) ∧ Kids (seed r).1 (seed r).2 ∧ (seed r).2.l.length ≤ 7 ∧ flat (seed r).1 (seed r).2 = rflat r := by
  cases r with
  | none => exact ⟨rfl, List.Pairwise.nil, trivial, by simp [seed], rfl⟩
  | some r => exact ⟨h.1, h.2.1, h.2.2.1, h.2.2.2.2, rfl⟩
theorem M.put_ok {m : M} (h : m.Ok) (e : En) : (m.put e).1.Ok ∧ (m.put e).1.ents = lput m.ents e ∧ (m.put e).2 = hit m.ents e.1 := by
  obtain ⟨hr, hn⟩ := h
  obtain ⟨s1, s2, s3, s4, s5⟩ := seed_ok hr
  obtain ⟨p1, p2, p3⟩ := put_flat _ _ e s1 s2
  obtain ⟨⟨q1, q2⟩, q3⟩ := put_size _ _ e s3
  obtain ⟨d, t, hs⟩ : ∃ d t, seed m.root = (d, t) := ⟨_, _, rfl⟩
  rw [hs] at s1 s2 s3 s4 s5 p1 p2 p3 q1 q2 q3
  obtain ⟨r, hr2⟩ : ∃ r, Tr.put d t e = r := ⟨_, rfl⟩
  have hput : m.put e = (⟨some (grow d r.1), if r.2 then m.n else m.n + 1⟩, r.2) := by unfold M.put; rw [hs]; show (_, _) = _; rw [hr2]
  simp only at s1 s2 s3 s4 s5 p1 p2 p3 q1 q2 q3
  rw [hr2] at p1 p2 p3 q1 q2 q3
  have hflat : flat (grow d r.1).1 (grow d r.1).2 = lput m.ents e ∧ RootOk (some (grow d r.1)) := by
    have h1 : 1 ≤ r.1.l.length := by
      rcases Nat.eq_zero_or_pos r.1.l.length with h0 | h0
      · exfalso
        have ht0 : t.l = [] := List.length_eq_zero_iff.1 (by omega)
        cases d with
        | zero =>
          have : r = (.mk [e] t.ks, false) := by rw [← hr2]; simp [Tr.put, ht0, hit, ins, pos]
          rw [this] at h0; simp at h0
        | succ d =>
          cases hm : m.root with
          | none => rw [hm] at hs; simp [seed] at hs
          | some y => rw [hm] at hs hr; simp [seed] at hs; have := hr.2.2.2.1; rw [hs, ht0] at this; simp at this
      · exact h0
    unfold grow
    split
    · rename_i h7
      obtain ⟨g1, g2, g3⟩ := halves_flat p3 (by omega)
      have hf : flat (d + 1) (.mk [mid r.1] [lo r.1, hi r.1]) = flat d r.1 := by simp [flat, inter, iright, g1]
      have hh : half r.1 = 4 := by unfold half; omega
      refine ⟨by rw [hf, p1, s5]; rfl, ⟨rfl, ?_⟩, ?_, ?_, by simp, by simp⟩
      · intro x hx
        simp at hx
        rcases hx with rfl | rfl
        · exact g2
        · exact g3
      · show Srt (flat (d + 1) _); rw [hf, p1]; exact lput_srt s2 e
      · intro x hx
        simp at hx
        rcases hx with rfl | rfl
        · exact sz_iff.2 ⟨by show 3 ≤ (r.1.l.take (half r.1)).length ∧ (r.1.l.take (half r.1)).length ≤ 7; rw [List.length_take, hh]; omega, kids_take q3 _⟩
        · exact sz_iff.2 ⟨by show 3 ≤ (r.1.l.drop (half r.1 + 1)).length ∧ (r.1.l.drop (half r.1 + 1)).length ≤ 7; rw [List.length_drop, hh]; omega, kids_drop q3 _⟩
    · rename_i h7
      exact ⟨by rw [p1, s5]; rfl, p3, by rw [p1]; exact lput_srt s2 e, q3, h1, by show r.1.l.length ≤ 7; omega⟩
  rw [hput]
  refine ⟨⟨hflat.2, ?_⟩, hflat.1, by rw [p2, s5]; rfl⟩
  show (if r.2 = true then m.n else m.n + 1) = (flat _ _).length
  rw [hflat.1, lput_length, hn]
  have : r.2 = hit m.ents e.1 := by rw [p2, s5]; rfl
  rw [this]
  cases hit m.ents e.1 <;> simp
def shrink (d : Nat) (t : T) : Option (Nat × T) := if t.l.length = 0 then (if 0 < t.ks.length then some (d - 1, kid t 0) else none) else some (d, t)
def M.del (m : M) (k : Ky) : M × Bool := match m.root with
  | none => (m, false)
  | some r => if (Tr.del r.1 r.2 k).2 then (⟨shrink r.1 (Tr.del r.1 r.2 k).1, m.n - 1⟩, true) else (m, false)
theorem M.del_ok {m : M} (h : m.Ok) (k : Ky) : (m.del k).1.Ok ∧ (m.del k).1.ents = ldel m.ents k ∧ (m.del k).2 = hit m.ents k := by
  have h' := h
  obtain ⟨hr, hn⟩ := h
  cases hm : m.root with
  | none =>
    have hf : m.ents = [] := by unfold M.ents; rw [hm]; rfl
    have hd : m.del k = (m, false) := by unfold M.del; rw [hm]
    rw [hd, hf]
    exact ⟨h', by simp [ldel, hit], rfl⟩
  | some r =>
    rw [hm] at hr
    obtain ⟨r1, r2, r3, r4, r5⟩ := hr
    obtain ⟨d, t⟩ := r
    simp only at r1 r2 r3 r4 r5
    have hf : m.ents = flat d t := by unfold M.ents; rw [hm]; rfl
    have D := Tr.del_ok d t k r1 r2 r3 (fun _ => r4)
    obtain ⟨q, hq⟩ : ∃ q, Tr.del d t k = q := ⟨_, rfl⟩
    rw [hq] at D
    have hd : m.del k = if q.2 then (⟨shrink d q.1, m.n - 1⟩, true) else (m, false) := by unfold M.del; rw [hm]; simp only [hq]
    rw [hd, hf]
    cases hq2 : q.2 with
    | false =>
      rw [if_neg (by simp)]
      have hh : hit (flat d t) k = false := by rw [← D.was, hq2]
      exact ⟨h', by rw [hf]; simp [ldel, hh], hh.symm⟩
    | true =>
      rw [if_pos rfl]
      have hh : hit (flat d t) k = true := by rw [← D.was, hq2]
      have hlen := ldel_length (l := flat d t) k
      rw [hh, if_pos rfl] at hlen
      have key : rflat (shrink d q.1) = ldel (flat d t) k ∧ RootOk (shrink d q.1) := by
        unfold shrink
        split
        · rename_i h0
          cases d with
          | zero =>
            have hk0 : q.1.ks = [] := D.wf
            rw [if_neg (by rw [hk0]; simp)]
            refine ⟨?_, trivial⟩
            rw [← D.flat]
            exact (List.length_eq_zero_iff.1 h0).symm
          | succ d =>
            have hk1 : q.1.ks.length = 1 := by have := D.wf.1; omega
            rw [if_pos (by omega), Nat.add_sub_cancel]
            have hks : q.1.ks = [kid q.1 0] := by
              obtain ⟨x, hx⟩ := List.length_eq_one_iff.1 hk1
              rw [hx]; simp [kid, hx]
            have hl0 : q.1.l = [] := List.length_eq_zero_iff.1 h0
            have hfk : flat (d + 1) q.1 = flat d (kid q.1 0) := by
              have := flat_one (d := d) (k := kid q.1 0)
              rw [← hks, ← hl0, T.eta] at this; exact this
            have hmem : kid q.1 0 ∈ q.1.ks := by rw [hks]; simp
            obtain ⟨⟨z1, z2⟩, z3⟩ := sz_iff.1 (D.kids _ hmem)
            refine ⟨by show flat d _ = _; rw [← hfk, D.flat], D.wf.2 _ hmem, ?_, z3, by show 1 ≤ (kid q.1 0).l.length; omega, z2⟩
            show Srt (flat d _); rw [← hfk, D.flat]; exact ldel_srt r2 k
        · rename_i h0
          refine ⟨D.flat, D.wf, ?_, D.kids, by show 1 ≤ q.1.l.length; omega, by have := D.len.2; show q.1.l.length ≤ 7; omega⟩
          show Srt (flat d q.1); rw [D.flat]; exact ldel_srt r2 k
      refine ⟨⟨key.2, ?_⟩, key.1, hh.symm⟩
      show m.n - 1 = (rflat (shrink d q.1)).length
      rw [key.1, hlen, hn, hf]

/-! ### how deep it is -/
def M.depth (m : M) : Nat := match m.root with
  | none => 0
  | some r => r.1 + 1
theorem sum_ge {l : List Nat} {c : Nat} (h : ∀ x ∈ l, c ≤ x) : l.length * c ≤ l.sum := by
  induction l with
  | nil => simp
  | cons a l ih =>
    have := ih (fun x hx => h x (by simp [hx]))
    have := h a (by simp)
    simp only [List.length_cons, List.sum_cons, Nat.add_mul]; omega
theorem sum_le {l : List Nat} {c : Nat} (h : ∀ x ∈ l, x ≤ c) : l.sum ≤ l.length * c := by
  induction l with
  | nil => simp
  | cons a l ih =>
    have := ih (fun x hx => h x (by simp [hx]))
    have := h a (by simp)
    simp only [List.length_cons, List.sum_cons, Nat.add_mul]; omega
theorem flat_len {d : Nat} {t : T} (hw : WF (d + 1) t) : (flat (d + 1) t).length = t.l.length + (t.ks.map fun k => (flat d k).length).sum := by
  show (inter _ _).length = _
  rw [inter_length (by simp [hw.1]), List.map_map]; rfl
theorem flat_bounds : ∀ (d : Nat) (t : T), WF d t → Sz d t → 4 ^ (d + 1) ≤ (flat d t).length + 1 ∧ (flat d t).length + 1 ≤ 8 ^ (d + 1)
  | 0, t, _, h => by have : flat 0 t = t.l := rfl; rw [this]; obtain ⟨h1, h2⟩ := h; omega
  | d + 1, t, hw, h => by
    obtain ⟨⟨h1, h2⟩, h3⟩ := h
    rw [flat_len hw]
    have hk := hw.1
    have a := sum_ge (l := t.ks.map fun k => (flat d k).length) (c := 4 ^ (d + 1) - 1) (by
      intro x hx; obtain ⟨k, hk, rfl⟩ := List.mem_map.1 hx
      have := (flat_bounds d k (hw.2 k hk) (h3 k hk)).1; omega)
    have b := sum_le (l := t.ks.map fun k => (flat d k).length) (c := 8 ^ (d + 1) - 1) (by
      intro x hx; obtain ⟨k, hk, rfl⟩ := List.mem_map.1 hx
      have := (flat_bounds d k (hw.2 k hk) (h3 k hk)).2; omega)
    rw [List.length_map, hk] at a b
    have p4 : 0 < 4 ^ (d + 1) := Nat.pow_pos (by omega)
    have p8 : 0 < 8 ^ (d + 1) := Nat.pow_pos (by omega)
    obtain ⟨x, hx⟩ : ∃ x, 4 ^ (d + 1) = x + 1 := ⟨4 ^ (d + 1) - 1, by omega⟩
    obtain ⟨y, hy⟩ : ∃ y, 8 ^ (d + 1) = y + 1 := ⟨8 ^ (d + 1) - 1, by omega⟩
    rw [Nat.pow_succ 4, Nat.pow_succ 8, hx, hy]
    rw [hx, Nat.add_sub_cancel] at a
    rw [hy, Nat.add_sub_cancel] at b
    have a4 : 4 * x ≤ (t.l.length + 1) * x := Nat.mul_le_mul_right _ (by omega)
    have b8 : (t.l.length + 1) * y ≤ 8 * y := Nat.mul_le_mul_right _ (by omega)
    omega
theorem M.bounds {m : M} (h : m.Ok) : (m.n = 0 ↔ m.depth = 0) ∧ (0 < m.depth → 2 * 4 ^ (m.depth - 1) ≤ m.n + 1 ∧ m.n + 1 ≤ 8 ^ m.depth) := by
  obtain ⟨hr, hn⟩ := h
  cases hm : m.root with
  | none =>
    have : m.ents = [] := by unfold M.ents; rw [hm]; rfl
    rw [hn, this]; simp [M.depth, hm]
  | some r =>
    obtain ⟨d, t⟩ := r
    rw [hm] at hr
    obtain ⟨r1, r2, r3, r4, r5⟩ := hr
    simp only at r1 r2 r3 r4 r5
    have hf : m.ents = flat d t := by unfold M.ents; rw [hm]; rfl
    have hd : m.depth = d + 1 := by simp [M.depth, hm]
    have hpos : 0 < (flat d t).length := by
      have := (l_sub r1).length_le; omega
    rw [hn, hf, hd, Nat.add_sub_cancel]
    refine ⟨by constructor <;> intro q <;> omega, fun _ => ?_⟩
    cases d with
    | zero =>
      have : flat 0 t = t.l := rfl
      rw [this]; omega
    | succ d =>
      rw [flat_len r1]
      have hk := r1.1
      have a := sum_ge (l := t.ks.map fun k => (flat d k).length) (c := 4 ^ (d + 1) - 1) (by
        intro x hx; obtain ⟨k, hk, rfl⟩ := List.mem_map.1 hx
        have := (flat_bounds d k (r1.2 k hk) (r3 k hk)).1; omega)
      have b := sum_le (l := t.ks.map fun k => (flat d k).length) (c := 8 ^ (d + 1) - 1) (by
        intro x hx; obtain ⟨k, hk, rfl⟩ := List.mem_map.1 hx
        have := (flat_bounds d k (r1.2 k hk) (r3 k hk)).2; omega)
      rw [List.length_map, hk] at a b
      have p4 : 0 < 4 ^ (d + 1) := Nat.pow_pos (by omega)
      have p8 : 0 < 8 ^ (d + 1) := Nat.pow_pos (by omega)
      obtain ⟨x, hx⟩ : ∃ x, 4 ^ (d + 1) = x + 1 := ⟨4 ^ (d + 1) - 1, by omega⟩
      obtain ⟨y, hy⟩ : ∃ y, 8 ^ (d + 1) = y + 1 := ⟨8 ^ (d + 1) - 1, by omega⟩
      rw [Nat.pow_succ 8, hx, hy]
      rw [hx, Nat.add_sub_cancel] at a
      rw [hy, Nat.add_sub_cancel] at b
      have a4 : 2 * x ≤ (t.l.length + 1) * x := Nat.mul_le_mul_right _ (by omega)
      have b8 : (t.l.length + 1) * y ≤ 8 * y := Nat.mul_le_mul_right _ (by omega)
      omega

/-! ### scans -/
def lfrom (l : List En) (k : Ky) : List En := l.drop (pos l k)
def upto (u : Ky) (e : En) : Bool := u == [] || lt e.1 u
def lscan (l : List En) (k u : Ky) : List En := (lfrom l k).takeWhile (upto u)
theorem lfrom_filter {l : List En} (h : Srt l) (k : Ky) : lfrom l k = l.filter fun e => !lt e.1 k := by
  unfold lfrom
  induction l with
  | nil => rfl
  | cons a l ih =>
    obtain ⟨h1, h2⟩ := List.pairwise_cons.1 h
    rw [pos_cons]
    cases ha : lt a.1 k with
    | true => rw [if_pos rfl, List.drop_succ_cons, ih h2, List.filter_cons_of_neg (by simp [ha])]
    | false =>
      rw [if_neg (by simp), List.drop_zero, List.filter_cons_of_pos (by simp [ha])]
      congr 1
      refine (List.filter_eq_self.2 fun b hb => ?_).symm
      have := h1 b hb
      cases hb2 : lt b.1 k with
      | false => rfl
      | true => have := lt_trans this hb2; rw [ha] at this; cases this
theorem takeWhile_filter {l : List En} (h : Srt l) (u : Ky) : l.takeWhile (upto u) = l.filter (upto u) := by
  induction l with
  | nil => rfl
  | cons a l ih =>
    obtain ⟨h1, h2⟩ := List.pairwise_cons.1 h
    rw [List.takeWhile_cons]
    cases ha : upto u a with
    | true => rw [if_pos rfl, ih h2, List.filter_cons_of_pos ha]
    | false =>
      rw [if_neg (by simp), List.filter_cons_of_neg (by simp [ha])]
      refine (List.filter_eq_nil_iff.2 fun b hb => ?_).symm
      have := h1 b hb
      unfold upto at ha ⊢
      simp only [Bool.or_eq_false_iff] at ha
      obtain ⟨ha1, ha2⟩ := ha
      simp only [ha1, Bool.false_or]
      intro hb2
      have := lt_trans this hb2
      rw [ha2] at this; cases this
theorem lscan_filter {l : List En} (h : Srt l) (k u : Ky) : lscan l k u = l.filter fun e => !lt e.1 k && upto u e := by
  unfold lscan
  have hs : Srt (lfrom l k) := h.drop
  rw [takeWhile_filter hs, lfrom_filter h, List.filter_filter]
  congr 1
  funext e; exact Bool.and_comm _ _
/-- What the document's Scan takes, one behind the other. -/
theorem lfrom_mid {A M B : List En} {k : Ky} (hA : ∀ a ∈ A, lt a.1 k = true) (hB : ∀ b ∈ B, lt k b.1 = true) : lfrom (A ++ M ++ B) k = lfrom M k ++ B := by
  unfold lfrom
  rw [(hit_mid (M := M) hA hB).1, List.append_assoc, List.drop_length_add_append, List.drop_append_of_le_length (pos_le M k)]
theorem lfrom_gt {B : List En} {k : Ky} (h : ∀ b ∈ B, lt b.1 k = false) : lfrom B k = B := by
  cases B with
  | nil => rfl
  | cons b B => unfold lfrom; rw [pos_head (h b (by simp))]; rfl
end Go.Tr
