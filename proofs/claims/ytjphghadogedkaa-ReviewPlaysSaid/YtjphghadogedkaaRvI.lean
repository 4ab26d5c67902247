/- A proposal is made; which are open. -/
import Derived.Test.YtjphghadogedkaaRvH
set_option linter.unusedSimpArgs false
set_option linter.unusedVariables false
namespace Go.Re
open Go Go.Sl
set_option maxRecDepth 100000
theorem eq_hash {a b : By} (ha : a.length = 32) (hb : b.length = 32) : EqlAt Go.Proofs.Try.prog 23 (u8s a) (u8s b) (a == b) := EqlAt.bytes (e := 5) (n := 32) (by kernel_rfl) (by kernel_rfl) (by kernel_rfl) (by kernel_rfl) ha hb
theorem fill_cons {place : Nat → Option (Nat × Nat)} {l l' out : List Value} {i off size : Nat} {v : Value} {r : List (Nat × Value)} (hp : place i = some (off, size)) (h1 : v.cells.toList.length = size) (h2 : off + size ≤ l.length) (h3 : splice l off v.cells.toList = l') (hr : fillL place l' r = some out) : fillL place l ((i, v) :: r) = some out := by
  unfold fillL
  simp only [hp]
  rw [h1, Nat.beq_refl, Nat.ble_eq_true_of_le h2, h3]
  exact hr
def prPlaces : List (Nat × Nat) := [(0, 1), (1, 1), (2, 1), (3, 32), (35, 1), (36, 1), (37, 1), (38, 1)]
theorem splice_one_at {a : List Value} {k : Nat} {v u : Value} {r : List Value} (hk : a.length = k) : splice (a ++ v :: r) k [u] = a ++ u :: r := by
  subst hk
  unfold splice
  rw [List.take_left, List.drop_append]
  simp
theorem fill_prop {id : Int} {a c h : By} (hh : h.length = 32) : fillL (prPlaces[·]?) zeroC [(0, .int .i64 id), (1, str a), (2, str c), (3, .agg ⟨u8s h⟩), (4, .bool true)] = some (propC ⟨id, a, c, h, true⟩ (.slice none 0 0) (.slice none 0 0) (.slice none 0 0)) := by
  have z := u8s_len h
  rw [zeroC_eq]
  refine fill_cons (off := 0) (size := 1) rfl rfl (Nat.le_of_ble_eq_true rfl) rfl ?_
  refine fill_cons (off := 1) (size := 1) rfl rfl (Nat.le_of_ble_eq_true rfl) rfl ?_
  refine fill_cons (off := 2) (size := 1) rfl rfl (Nat.le_of_ble_eq_true rfl) rfl ?_
  refine fill_cons (off := 3) (size := 32) (l' := [.int .i64 id, str a, str c] ++ u8s h ++ [.bool false, .slice none 0 0, .slice none 0 0, .slice none 0 0]) rfl (by show (u8s h).length = 32; omega) (Nat.le_of_ble_eq_true rfl) ?_ ?_
  · show splice _ 3 (u8s h) = _
    unfold splice
    rw [z, hh]; rfl
  refine fill_cons (off := 35) (size := 1) (l' := [.int .i64 id, str a, str c] ++ u8s h ++ [.bool true, .slice none 0 0, .slice none 0 0, .slice none 0 0]) rfl rfl (by simp; omega) ?_ rfl
  show splice ([.int .i64 id, str a, str c] ++ u8s h ++ [.bool false, .slice none 0 0, .slice none 0 0, .slice none 0 0]) 35 [.bool true] = _
  exact splice_one_at (by simp; omega)
theorem fill_sheet {p : Pr} {m : Nat} (hh : p.h.length = 32) : fillL (([(0, 39), (39, 1)] : List (Nat × Nat))[·]?) (zeroC ++ [.map none]) [(0, .agg ⟨propC p (.slice none 0 0) (.slice none 0 0) (.slice none 0 0)⟩), (1, .map (some m))] = some (sheetC ⟨p, [], []⟩ none 0 m) := by
  have z := propC_len (y := .slice none 0 0) (n := .slice none 0 0) (t := .slice none 0 0) hh
  refine fill_cons (off := 0) (size := 39) (l' := propC p (.slice none 0 0) (.slice none 0 0) (.slice none 0 0) ++ [.map none]) rfl z (Nat.le_of_ble_eq_true rfl) ?_ ?_
  · show splice _ 0 (propC p (.slice none 0 0) (.slice none 0 0) (.slice none 0 0)) = _
    unfold splice
    rw [z]; rfl
  refine fill_cons (off := 39) (size := 1) (l' := propC p (.slice none 0 0) (.slice none 0 0) (.slice none 0 0) ++ [.map (some m)]) rfl rfl (by simp [z]) ?_ rfl
  exact splice_one_at z
def clash (c h : By) (s : Sh) : Bool := s.pr.o && (s.pr.c == c) && (s.pr.h == h)
def opens (L : List Sh) : Nat := (L.filter fun s => s.pr.o).length
def newSh (L : List Sh) (a c h : By) : Sh := ⟨⟨(L.length : Int) + 1, a, c, h, true⟩, [], []⟩
def proposeM (L : List Sh) (a c h : By) : Int × Int × List Sh := if L.any (clash c h) then (0, 110, L) else if 64 ≤ opens L then (0, 3, L) else ((L.length : Int) + 1, 0, L ++ [newSh L a c h])
theorem take_snoc {L : List Sh} {j : Nat} {s : Sh} (h : L[j]? = some s) : L.take (j + 1) = L.take j ++ [s] := by
  obtain ⟨hj, rfl⟩ := List.getElem?_eq_some_iff.1 h
  exact List.take_succ_eq_append_getElem hj
theorem opens_take {L : List Sh} {j : Nat} {s : Sh} (h : L[j]? = some s) : opens (L.take (j + 1)) = opens (L.take j) + (if s.pr.o then 1 else 0) := by
  rw [take_snoc h]; unfold opens; rw [List.filter_append, List.length_append]
  cases h : s.pr.o <;> simp [h]
theorem any_take {L : List Sh} {j : Nat} {s : Sh} {f : Sh → Bool} (h : L[j]? = some s) : (L.take (j + 1)).any f = ((L.take j).any f || f s) := by
  rw [take_snoc h]; simp
theorem opens_le (L : List Sh) : opens L ≤ L.length := List.length_filter_le _ _
theorem set_self {L : List Sh} {i : Nat} {s : Sh} (h : L[i]? = some s) : L.set i s = L := by
  obtain ⟨hi, rfl⟩ := List.getElem?_eq_some_iff.1 h
  exact List.set_getElem_self hi
theorem Sat.back {Γ : List HProp} {ad : List Nat} {L : List Sh} {i a m tc : Nat} {tp : Option Addr} {s : Sh} {hF : Hp} {w : World} (ha : ad[i]? = some a) (hs : L[i]? = some s) (hh : s.pr.h.length = 32)
    (h : Sat (blk a 80 (0, 0) (sheetC s tp tc m) :: row (.slice tp s.talk.length tc) 67 2 s.talk.length (prs s.talk) :: mp m (encV s.votes) :: star ((List.zipWith sheet ad L).eraseIdx i) :: Γ) hF w) : Sat (sheets ad L :: Γ) hF w := by
  have := Sat.put ha (List.getElem?_eq_some_iff.1 hs).1 (Sl.Sat.shut (m, tp, tc) hh h)
  rwa [set_self hs] at this
theorem sheet_new {Γ : List HProp} {e m : Nat} {p : Pr} {hF : Hp} {w : World} (hh : p.h.length = 32) (s : Sat (blk e 80 (0, 0) (sheetC ⟨p, [], []⟩ none 0 m) :: pt m (.map #[] 0) :: Γ) hF w) : Sat (sheet e ⟨p, [], []⟩ :: Γ) hF w := by
  refine Sl.Sat.shut (m, none, 0) hh ?_
  have s1 : Sat (mp m ([] : List (By × Value)) :: blk e 80 (0, 0) (sheetC ⟨p, [], []⟩ none 0 m) :: Γ) hF w := Sl.Sat.mp_new (s.perm (.swap _ _ _))
  have s2 := Sl.Sat.row_nil (e := 67) (sz := 2) s1
  exact s2.perm (((List.Perm.swap _ _ _).cons _).trans (.swap _ _ _))
theorem sheets_push {Γ : List HProp} {ad : List Nat} {L : List Sh} {e : Nat} {s : Sh} {hF : Hp} {w : World} (had : ad.length = L.length) (h : Sat (sheet e s :: sheets ad L :: Γ) hF w) : Sat (sheets (ad ++ [e]) (L ++ [s]) :: Γ) hF w := by
  have := Sl.Sat.star_push h
  have e1 : List.zipWith sheet (ad ++ [e]) (L ++ [s]) = List.zipWith sheet ad L ++ [sheet e s] := by rw [List.zipWith_append had]; rfl
  unfold sheets
  rw [e1]; exact this
set_option maxRecDepth 100000
set_option maxHeartbeats 4000000
attribute [local irreducible] GK GO Yl Wt Ef Hd GH KH wpListIn Code.wpIn toBody roundQ poolOf rs RS YieldOk IterOk VOk row star exs mp lp Sat pt FnOk Rd bodyPost bodyPostM Lv Ret Exit.then Exit.inBlock Exit.noGoto Int.decLt Int.decLe Int.instDecidableEq
attribute [local irreducible] u8s strs likeTo propC encV prs ptrs sheetC sheets zeroC
set_option pp.deepTerms true
set_option pp.maxSteps 1000000
variable {hF H : Hp}
theorem propose_ok {b : Nat} {L : List Sh} {a c h : By} (hh : h.length = 32) (hl : L.length ≤ 1000000) :
    FnOk Go.Proofs.Try.prog 15 [.pointer (some ⟨b, 0, none⟩), str a, str c, .agg ⟨u8s h⟩] [board b L] hF
      (fun v Γ => v = .tuple #[.int .i64 (proposeM L a c h).1, .int .i64 (proposeM L a c h).2.1] ∧ Γ = [board b (proposeM L a c h).2.2]) := by
  refine FnOk.intro 76 Go.Proofs.Try.func15 rfl rfl fun w0 => ?_
  have z := u8s_len h
  have zo := u8s_one h
  refine GK.opens 0 rfl fun x had => ?_
  obtain ⟨p, cc, ad⟩ := x
  replace had : ad.length = L.length := had
  (repeat (first | refine GK.ro ?_ | (refine GK.box ?_; intro bl) | (refine GK.mkMap ?_; intro bm) | (refine GK.build0 tb ?_; intro bs) | (refine GL.cons ?_; refine GO.alloc (by first | exact Wt.none | exact Wt.some rfl rfl (by first | exact rfl | decide +kernel)) (by exact rfl) ?_; intro ba) | (refine GL.cons ?_; refine Gt.storeAny tb 0 (by first | exact Wt.none | exact Wt.some rfl rfl (by first | exact rfl | decide +kernel)) (by exact rfl) (by exact rfl) (by exact rfl) (by assumption) (by assumption) (by exact rfl) (by first | exact rfl | assumption) ?_) | (refine GL.cons ?_; refine Gt.storeAny tb 1 (by first | exact Wt.none | exact Wt.some rfl rfl (by first | exact rfl | decide +kernel)) (by exact rfl) (by exact rfl) (by exact rfl) (by assumption) (by assumption) (by exact rfl) (by first | exact rfl | assumption) ?_) | (refine GL.cons ?_; refine Gt.storeAny tb 2 (by first | exact Wt.none | exact Wt.some rfl rfl (by first | exact rfl | decide +kernel)) (by exact rfl) (by exact rfl) (by exact rfl) (by assumption) (by assumption) (by exact rfl) (by first | exact rfl | assumption) ?_) | (refine GL.cons ?_; refine Gt.storeAny tb 3 (by first | exact Wt.none | exact Wt.some rfl rfl (by first | exact rfl | decide +kernel)) (by exact rfl) (by exact rfl) (by exact rfl) (by assumption) (by assumption) (by exact rfl) (by first | exact rfl | assumption) ?_) | (refine GL.cons ?_; refine Gt.storeAny tb 4 (by first | exact Wt.none | exact Wt.some rfl rfl (by first | exact rfl | decide +kernel)) (by exact rfl) (by exact rfl) (by exact rfl) (by assumption) (by assumption) (by exact rfl) (by first | exact rfl | assumption) ?_) | (refine GL.cons ?_; refine Gt.storeAny tb 5 (by first | exact Wt.none | exact Wt.some rfl rfl (by first | exact rfl | decide +kernel)) (by exact rfl) (by exact rfl) (by exact rfl) (by assumption) (by assumption) (by exact rfl) (by first | exact rfl | assumption) ?_) | (refine GL.cons ?_; refine Gt.storeAny tb 6 (by first | exact Wt.none | exact Wt.some rfl rfl (by first | exact rfl | decide +kernel)) (by exact rfl) (by exact rfl) (by exact rfl) (by assumption) (by assumption) (by exact rfl) (by first | exact rfl | assumption) ?_) | (refine GL.cons ?_; refine Gt.storeAny tb 7 (by first | exact Wt.none | exact Wt.some rfl rfl (by first | exact rfl | decide +kernel)) (by exact rfl) (by exact rfl) (by exact rfl) (by assumption) (by assumption) (by exact rfl) (by first | exact rfl | assumption) ?_) | (refine GL.cons ?_; refine Gt.storeAny tb 8 (by first | exact Wt.none | exact Wt.some rfl rfl (by first | exact rfl | decide +kernel)) (by exact rfl) (by exact rfl) (by exact rfl) (by assumption) (by assumption) (by exact rfl) (by first | exact rfl | assumption) ?_) | (refine GL.cons ?_; refine Gt.storeAny tb 9 (by first | exact Wt.none | exact Wt.some rfl rfl (by first | exact rfl | decide +kernel)) (by exact rfl) (by exact rfl) (by exact rfl) (by assumption) (by assumption) (by exact rfl) (by first | exact rfl | assumption) ?_)))
  refine GL.cons ?_; refine GO.callA (fun hF' hle hH => none_ok) (by first | exact Wt.none | exact Wt.some rfl rfl (by first | exact rfl | decide +kernel)) (by kernel_rfl) rfl rfl (by repeat (first | exact SubR.nil | apply SubR.cons 0 rfl | apply SubR.cons 1 rfl | apply SubR.cons 2 rfl | apply SubR.cons 3 rfl | apply SubR.cons 4 rfl | apply SubR.cons 5 rfl | apply SubR.cons 6 rfl | apply SubR.cons 7 rfl | apply SubR.cons 8 rfl | apply SubR.cons 9 rfl | apply SubR.cons 10 rfl | apply SubR.cons 11 rfl | apply SubR.cons 12 rfl | apply SubR.cons 13 rfl | apply SubR.cons 14 rfl | apply SubR.cons 15 rfl)) ?_
  rintro v Γ' ⟨rfl, rfl⟩
  (repeat (first | refine GK.ro ?_ | (refine GK.box ?_; intro bl) | (refine GK.mkMap ?_; intro bm) | (refine GK.build0 tb ?_; intro bs)))
  refine GK.weak (fr' := [(0, .pointer (some ⟨b, 0, none⟩)), (1, str a), (2, str c), (7, .pointer (some ⟨bl, 0, none⟩)), (19, .slice p L.length cc), (20, .int .i64 (L.length : Int)), (10, .int .i64 ((0 : Nat) : Int)), (21, .int .i64 ((0 : Nat) : Int))])
    (Γ' := [sheets ad L, bk b L.length p cc, rw_ L.length p cc ad, blk bl 23 (0, 0) (u8s h)]) (by repeat (first | exact trivial | refine ⟨rfl, ?_⟩)) (fun _ s => Sat.sub (by repeat (first | exact SubR.nil | apply SubR.cons 0 rfl | apply SubR.cons 1 rfl | apply SubR.cons 2 rfl | apply SubR.cons 3 rfl | apply SubR.cons 4 rfl | apply SubR.cons 5 rfl | apply SubR.cons 6 rfl | apply SubR.cons 7 rfl | apply SubR.cons 8 rfl | apply SubR.cons 9 rfl | apply SubR.cons 10 rfl | apply SubR.cons 11 rfl | apply SubR.cons 12 rfl | apply SubR.cons 13 rfl | apply SubR.cons 14 rfl | apply SubR.cons 15 rfl)) s)
    (G.loopN (X := Nat) (fun j => L.length - j) (fun j => [(0, .pointer (some ⟨b, 0, none⟩)), (1, str a), (2, str c), (7, .pointer (some ⟨bl, 0, none⟩)), (19, .slice p L.length cc), (20, .int .i64 (L.length : Int)), (10, .int .i64 (opens (L.take j) : Int)), (21, .int .i64 (j : Int))])
    (fun j => [sheets ad L, bk b L.length p cc, rw_ L.length p cc ad, blk bl 23 (0, 0) (u8s h)])
    (fun j => j ≤ L.length ∧ (L.take j).any (clash c h) = false) (fun j hj q hq => ?_) 0 ⟨Nat.zero_le _, rfl⟩)
  obtain ⟨hj, hno⟩ := hj
  (repeat (first | refine GK.ro ?_ | (refine GK.box ?_; intro bl) | (refine GK.mkMap ?_; intro bm) | (refine GK.build0 tb ?_; intro bs)))
  (first | refine G.condP rfl (fun hb => ?_) (fun hb => ?_) | refine G.condN rfl (fun hb => ?_) (fun hb => ?_) | refine G.cond rfl (fun hb => ?_) (fun hb => ?_))
  · obtain ⟨s, hs⟩ : ∃ s, L[j]? = some s := ⟨_, List.getElem?_eq_getElem (by omega)⟩
    obtain ⟨e, he⟩ : ∃ e, ad[j]? = some e := ⟨_, List.getElem?_eq_getElem (by omega)⟩
    have hlt : j < L.length := by omega
    clear hb
    refine GK.rowPtr 2 rfl (by omega) fun b2 hp => ?_
    subst hp
    have k1 : (ptrs ad)[0 + (j : Int).toNat * 1]? = some (.pointer (some ⟨e, 0, none⟩)) := by rw [show 0 + (j : Int).toNat * 1 = j by omega]; exact ptrs_get he
    have hop := opens_take hs
    have hol := opens_le (L.take j)
    rw [List.length_take] at hol
    have han := any_take (f := clash c h) hs
    refine GK.heap (fun w s1 => Sat.pull he hs s1) ?_
    refine GK.opens 0 rfl fun x hsh => ?_
    obtain ⟨m, tp, tc⟩ := x
    try dsimp only at hsh
    have g1 : (sheetC s tp tc m)[0 + 0 + 35]? = some (.bool s.pr.o) := sheetC_get (propC_o hsh)
    have g2 : (sheetC s tp tc m)[0 + 0 + 2]? = some (str s.pr.c) := sheetC_get propC_c
    have g3 : At (sheetC s tp tc m) (0 + 0 + 3) (u8s s.pr.h) := fun i v hv => by
      have := sheetC_at (s := s) (p := tp) (c := tc) (m := m) (3 + i) v ?_
      · rw [show 0 + 0 + 3 + i = 0 + 0 + (3 + i) by omega]; exact this
      · have := propC_h (p := s.pr) (y := .slice none 0 0) (n := .slice none 0 0) (t := .slice tp s.talk.length tc) i v hv
        rw [show 3 + i = 0 + 3 + i by omega]; exact this
    have z1 : (u8s s.pr.h).length = 32 := by rw [u8s_len, hsh]
    have z2 : (u8s h).length = 32 := by rw [u8s_len, hh]
    have g4 : At (u8s h) 0 (u8s h) := At.all _
    have hE := eq_hash hsh hh
    cases ho : s.pr.o with
    | false =>
      rw [ho] at g1 hop
      (repeat (first | refine GK.ro ?_ | (refine GK.box ?_; intro bl) | (refine GK.mkMap ?_; intro bm) | (refine GK.build0 tb ?_; intro bs)))
      refine GK.heap (Γ' := [sheets ad L, bk b L.length (some ⟨b2, 0, none⟩) cc, rw_ L.length (some ⟨b2, 0, none⟩) cc ad, blk bl 23 (0, 0) (u8s h)]) (fun w s1 => Sat.back he hs hsh s1) ?_
      simp only [Bool.false_eq_true, if_false, Nat.add_zero] at hop
      rw [← hop]
      (refine GQ.againN (j + 1) ?_ ?_ ?_ ?_; rotate_left; (first | omega | (dsimp only; omega)); exact (by repeat (first | exact trivial | refine ⟨rfl, ?_⟩)); exact (fun _ s => Sat.sub (by repeat (first | exact SubR.nil | apply SubR.cons 0 rfl | apply SubR.cons 1 rfl | apply SubR.cons 2 rfl | apply SubR.cons 3 rfl | apply SubR.cons 4 rfl | apply SubR.cons 5 rfl | apply SubR.cons 6 rfl | apply SubR.cons 7 rfl | apply SubR.cons 8 rfl | apply SubR.cons 9 rfl | apply SubR.cons 10 rfl | apply SubR.cons 11 rfl | apply SubR.cons 12 rfl | apply SubR.cons 13 rfl | apply SubR.cons 14 rfl | apply SubR.cons 15 rfl)) s))
      refine ⟨by omega, ?_⟩
      rw [han, hno]; simp [clash, ho]
    | true =>
      rw [ho] at g1 hop
      have hopi : (opens (L.take j) : Int) + 1 = (opens (L.take (j + 1)) : Int) := by rw [hop]; simp
      (repeat (first | refine GK.ro ?_ | (refine GK.box ?_; intro bl) | (refine GK.mkMap ?_; intro bm) | (refine GK.build0 tb ?_; intro bs)))
      refine G.draw [] [blk e 80 (0, 0) (sheetC s tp tc m), blk bl 23 (0, 0) (u8s h)] (by kernel_rfl) ?_
      ((first | refine GH.to 0 ?_ | refine GH.tos 0 ?_); (first | refine GH.to 1 ?_ | refine GH.tos 1 ?_); (first | refine GH.to 2 ?_ | refine GH.tos 2 ?_); (first | refine GH.to 3 ?_ | refine GH.tos 3 ?_); (first | refine GH.to 4 ?_ | refine GH.tos 4 ?_); (first | refine GH.to 5 ?_ | refine GH.tos 5 ?_); (first | refine GH.to 6 ?_ | refine GH.tos 6 ?_))
      by_cases hc : s.pr.c = c
      · rw [show (s.pr.c == c) = true from by simp [hc]]
        ((first | refine GH.to 7 ?_ | refine GH.tos 7 ?_); (first | refine GH.to 8 ?_ | refine GH.tos 8 ?_); (first | refine GH.to 9 ?_ | refine GH.tos 9 ?_); (first | refine GH.to 10 ?_ | refine GH.tos 10 ?_); (first | refine GH.to 11 ?_ | refine GH.tos 11 ?_); (first | refine GH.to 12 ?_ | refine GH.tos 12 ?_); (first | refine GH.to 13 ?_ | refine GH.tos 13 ?_); (first | refine GH.to 14 ?_ | refine GH.tos 14 ?_); (first | refine GH.to 15 ?_ | refine GH.tos 15 ?_))
        refine GH.fin (by kernel_rfl) ?_
        by_cases hq2 : s.pr.h = h
        · rw [show (s.pr.h == h) = true from by simp [hq2]]
          (repeat (first | refine GK.ro ?_ | (refine GK.box ?_; intro bl) | (refine GK.mkMap ?_; intro bm) | (refine GK.build0 tb ?_; intro bs)))
          refine GQ.fin2 rfl (Rv.tmp rfl) (Rv.tmp rfl) (Γ' := [board b L]) (fun w s1 => Sl.Sat.shut (some ⟨b2, 0, none⟩, cc, ad) had (Sl.Sat.sub (by repeat (first | exact SubR.nil | apply SubR.cons 0 rfl | apply SubR.cons 1 rfl | apply SubR.cons 2 rfl | apply SubR.cons 3 rfl | apply SubR.cons 4 rfl | apply SubR.cons 5 rfl | apply SubR.cons 6 rfl | apply SubR.cons 7 rfl | apply SubR.cons 8 rfl | apply SubR.cons 9 rfl | apply SubR.cons 10 rfl | apply SubR.cons 11 rfl | apply SubR.cons 12 rfl | apply SubR.cons 13 rfl | apply SubR.cons 14 rfl | apply SubR.cons 15 rfl)) (Sat.back (Γ := [bk b L.length (some ⟨b2, 0, none⟩) cc, rw_ L.length (some ⟨b2, 0, none⟩) cc ad, blk bl 23 (0, 0) (u8s h)]) he hs hsh s1))) ?_
          have : L.any (clash c h) = true := List.any_eq_true.2 ⟨s, List.mem_of_getElem? hs, by simp [clash, ho, hc, hq2]⟩
          rw [show proposeM L a c h = (0, 110, L) from if_pos this]; exact ⟨rfl, rfl⟩
        · rw [show (s.pr.h == h) = false from by simp [hq2]]
          (repeat (first | refine GK.ro ?_ | (refine GK.box ?_; intro bl) | (refine GK.mkMap ?_; intro bm) | (refine GK.build0 tb ?_; intro bs)))
          refine GK.heap (Γ' := [sheets ad L, bk b L.length (some ⟨b2, 0, none⟩) cc, rw_ L.length (some ⟨b2, 0, none⟩) cc ad, blk bl 23 (0, 0) (u8s h)]) (fun w s1 => Sat.back he hs hsh s1) ?_
          rw [hopi]
          (refine GQ.againN (j + 1) ?_ ?_ ?_ ?_; rotate_left; (first | omega | (dsimp only; omega)); exact (by repeat (first | exact trivial | refine ⟨rfl, ?_⟩)); exact (fun _ s => Sat.sub (by repeat (first | exact SubR.nil | apply SubR.cons 0 rfl | apply SubR.cons 1 rfl | apply SubR.cons 2 rfl | apply SubR.cons 3 rfl | apply SubR.cons 4 rfl | apply SubR.cons 5 rfl | apply SubR.cons 6 rfl | apply SubR.cons 7 rfl | apply SubR.cons 8 rfl | apply SubR.cons 9 rfl | apply SubR.cons 10 rfl | apply SubR.cons 11 rfl | apply SubR.cons 12 rfl | apply SubR.cons 13 rfl | apply SubR.cons 14 rfl | apply SubR.cons 15 rfl)) s))
          refine ⟨by omega, ?_⟩
          rw [han, hno]; simp [clash, hq2]
      · rw [show (s.pr.c == c) = false from by simp [hc]]
        ((first | refine GH.to 7 ?_ | refine GH.tos 7 ?_); (first | refine GH.to 8 ?_ | refine GH.tos 8 ?_); (first | refine GH.to 9 ?_ | refine GH.tos 9 ?_); (first | refine GH.to 10 ?_ | refine GH.tos 10 ?_); (first | refine GH.to 11 ?_ | refine GH.tos 11 ?_); (first | refine GH.to 12 ?_ | refine GH.tos 12 ?_); (first | refine GH.to 13 ?_ | refine GH.tos 13 ?_); (first | refine GH.to 14 ?_ | refine GH.tos 14 ?_); (first | refine GH.to 15 ?_ | refine GH.tos 15 ?_))
        refine GH.fin (by kernel_rfl) ?_
        (repeat (first | refine GK.ro ?_ | (refine GK.box ?_; intro bl) | (refine GK.mkMap ?_; intro bm) | (refine GK.build0 tb ?_; intro bs)))
        refine GK.heap (Γ' := [sheets ad L, bk b L.length (some ⟨b2, 0, none⟩) cc, rw_ L.length (some ⟨b2, 0, none⟩) cc ad, blk bl 23 (0, 0) (u8s h)]) (fun w s1 => Sat.back he hs hsh s1) ?_
        rw [hopi]
        (refine GQ.againN (j + 1) ?_ ?_ ?_ ?_; rotate_left; (first | omega | (dsimp only; omega)); exact (by repeat (first | exact trivial | refine ⟨rfl, ?_⟩)); exact (fun _ s => Sat.sub (by repeat (first | exact SubR.nil | apply SubR.cons 0 rfl | apply SubR.cons 1 rfl | apply SubR.cons 2 rfl | apply SubR.cons 3 rfl | apply SubR.cons 4 rfl | apply SubR.cons 5 rfl | apply SubR.cons 6 rfl | apply SubR.cons 7 rfl | apply SubR.cons 8 rfl | apply SubR.cons 9 rfl | apply SubR.cons 10 rfl | apply SubR.cons 11 rfl | apply SubR.cons 12 rfl | apply SubR.cons 13 rfl | apply SubR.cons 14 rfl | apply SubR.cons 15 rfl)) s))
        refine ⟨by omega, ?_⟩
        rw [han, hno]; simp [clash, hc]
  · have hjl : j = L.length := by omega
    subst hjl
    rw [List.take_length] at hno ⊢
    (repeat (first | refine GK.ro ?_ | (refine GK.box ?_; intro bl) | (refine GK.mkMap ?_; intro bm) | (refine GK.build0 tb ?_; intro bs)))
    (first | refine G.condP rfl (fun hb => ?_) (fun hb => ?_) | refine G.condN rfl (fun hb => ?_) (fun hb => ?_) | refine G.cond rfl (fun hb => ?_) (fun hb => ?_))
    · (repeat (first | refine GK.ro ?_ | (refine GK.box ?_; intro bl) | (refine GK.mkMap ?_; intro bm) | (refine GK.build0 tb ?_; intro bs)))
      refine GQ.fin2 rfl (Rv.tmp rfl) (Rv.tmp rfl) (Γ' := [board b L]) (fun w s1 => Sl.Sat.shut (p, cc, ad) had (Sl.Sat.sub (by repeat (first | exact SubR.nil | apply SubR.cons 0 rfl | apply SubR.cons 1 rfl | apply SubR.cons 2 rfl | apply SubR.cons 3 rfl | apply SubR.cons 4 rfl | apply SubR.cons 5 rfl | apply SubR.cons 6 rfl | apply SubR.cons 7 rfl | apply SubR.cons 8 rfl | apply SubR.cons 9 rfl | apply SubR.cons 10 rfl | apply SubR.cons 11 rfl | apply SubR.cons 12 rfl | apply SubR.cons 13 rfl | apply SubR.cons 14 rfl | apply SubR.cons 15 rfl)) s1)) ?_
      rw [show proposeM L a c h = (0, 3, L) from by unfold proposeM; rw [if_neg (by rw [hno]; decide), if_pos (by omega)]]; exact ⟨rfl, rfl⟩
    · (repeat (first | refine GK.ro ?_ | (refine GK.box ?_; intro bl) | (refine GK.mkMap ?_; intro bm) | (refine GK.build0 tb ?_; intro bs)))
      refine GK.heap (Γ' := [bk b L.length p cc, rw_ L.length p cc ad, sheets ad L, blk bl 23 (0, 0) (u8s h)]) (fun _ s => Sat.sub (by repeat (first | exact SubR.nil | apply SubR.cons 0 rfl | apply SubR.cons 1 rfl | apply SubR.cons 2 rfl | apply SubR.cons 3 rfl | apply SubR.cons 4 rfl | apply SubR.cons 5 rfl | apply SubR.cons 6 rfl | apply SubR.cons 7 rfl | apply SubR.cons 8 rfl | apply SubR.cons 9 rfl | apply SubR.cons 10 rfl | apply SubR.cons 11 rfl | apply SubR.cons 12 rfl | apply SubR.cons 13 rfl | apply SubR.cons 14 rfl | apply SubR.cons 15 rfl)) s) ?_
      have z2 : (u8s h).length = 32 := by rw [u8s_len, hh]
      have g4 : At (u8s h) 0 (u8s h) := At.all _
      refine G.draw [17] [bk b L.length p cc, blk bl 23 (0, 0) (u8s h)] (by kernel_rfl) ?_
      ((first | refine GH.to 0 ?_ | refine GH.tos 0 ?_); (first | refine GH.to 1 ?_ | refine GH.tos 1 ?_); (first | refine GH.to 2 ?_ | refine GH.tos 2 ?_); (first | refine GH.to 3 ?_ | refine GH.tos 3 ?_); (first | refine GH.to 4 ?_ | refine GH.tos 4 ?_); (first | refine GH.to 5 ?_ | refine GH.tos 5 ?_); (first | refine GH.to 6 ?_ | refine GH.tos 6 ?_); (first | refine GH.to 7 ?_ | refine GH.tos 7 ?_); (first | refine GH.to 8 ?_ | refine GH.tos 8 ?_))
      refine GH.take 9 rfl (by kernel_rfl) (by first | exact Wt.none | exact Wt.some rfl rfl (by first | exact rfl | decide +kernel)) (fun _ s => Sat.sub (by repeat (first | exact SubR.nil | apply SubR.cons 0 rfl | apply SubR.cons 1 rfl | apply SubR.cons 2 rfl | apply SubR.cons 3 rfl | apply SubR.cons 4 rfl | apply SubR.cons 5 rfl | apply SubR.cons 6 rfl | apply SubR.cons 7 rfl | apply SubR.cons 8 rfl | apply SubR.cons 9 rfl | apply SubR.cons 10 rfl | apply SubR.cons 11 rfl | apply SubR.cons 12 rfl | apply SubR.cons 13 rfl | apply SubR.cons 14 rfl | apply SubR.cons 15 rfl)) s) (Yl.buildStruct (ps := prPlaces) (zl := zeroC) (by kernel_rfl) (by kernel_rfl) rfl (fill_prop hh)) ?_
      refine GH.step 10 rfl (by kernel_rfl) ?_
      refine GO.makeMap (by first | exact Wt.none | exact Wt.some rfl rfl (by first | exact rfl | decide +kernel)) ?_
      intro m
      refine GH.keep (fun _ s => Sat.sub (by repeat (first | exact SubR.nil | apply SubR.cons 0 rfl | apply SubR.cons 1 rfl | apply SubR.cons 2 rfl | apply SubR.cons 3 rfl | apply SubR.cons 4 rfl | apply SubR.cons 5 rfl | apply SubR.cons 6 rfl | apply SubR.cons 7 rfl | apply SubR.cons 8 rfl | apply SubR.cons 9 rfl | apply SubR.cons 10 rfl | apply SubR.cons 11 rfl | apply SubR.cons 12 rfl | apply SubR.cons 13 rfl | apply SubR.cons 14 rfl | apply SubR.cons 15 rfl)) s) ?_
      refine GH.take 11 rfl (by kernel_rfl) (by first | exact Wt.none | exact Wt.some rfl rfl (by first | exact rfl | decide +kernel)) (fun _ s => Sat.sub (by repeat (first | exact SubR.nil | apply SubR.cons 0 rfl | apply SubR.cons 1 rfl | apply SubR.cons 2 rfl | apply SubR.cons 3 rfl | apply SubR.cons 4 rfl | apply SubR.cons 5 rfl | apply SubR.cons 6 rfl | apply SubR.cons 7 rfl | apply SubR.cons 8 rfl | apply SubR.cons 9 rfl | apply SubR.cons 10 rfl | apply SubR.cons 11 rfl | apply SubR.cons 12 rfl | apply SubR.cons 13 rfl | apply SubR.cons 14 rfl | apply SubR.cons 15 rfl)) s) (Yl.buildStruct (ps := [(0, 39), (39, 1)]) (zl := zeroC ++ [.map none]) (by kernel_rfl) (by kernel_rfl) rfl (fill_sheet (p := ⟨(L.length : Int) + 1, a, c, h, true⟩) hh)) ?_
      refine GH.step 12 rfl (by kernel_rfl) ?_
      refine GO.box (by first | exact Wt.none | exact Wt.some rfl rfl (by first | exact rfl | decide +kernel)) rfl rfl ?_
      intro e
      refine GH.keep (fun _ s => Sat.sub (by repeat (first | exact SubR.nil | apply SubR.cons 0 rfl | apply SubR.cons 1 rfl | apply SubR.cons 2 rfl | apply SubR.cons 3 rfl | apply SubR.cons 4 rfl | apply SubR.cons 5 rfl | apply SubR.cons 6 rfl | apply SubR.cons 7 rfl | apply SubR.cons 8 rfl | apply SubR.cons 9 rfl | apply SubR.cons 10 rfl | apply SubR.cons 11 rfl | apply SubR.cons 12 rfl | apply SubR.cons 13 rfl | apply SubR.cons 14 rfl | apply SubR.cons 15 rfl)) s) ?_
      refine GH.step 13 rfl (by kernel_rfl) ?_
      refine Gt.buildLit tb (sz := 0) (n := 0) (by first | exact Wt.none | exact Wt.some rfl rfl (by first | exact rfl | decide +kernel)) rfl rfl (by kernel_rfl) rfl rfl rfl rfl rfl rfl ?_
      intro bx
      refine GH.keep (fun _ s => Sat.sub (by repeat (first | exact SubR.nil | apply SubR.cons 0 rfl | apply SubR.cons 1 rfl | apply SubR.cons 2 rfl | apply SubR.cons 3 rfl | apply SubR.cons 4 rfl | apply SubR.cons 5 rfl | apply SubR.cons 6 rfl | apply SubR.cons 7 rfl | apply SubR.cons 8 rfl | apply SubR.cons 9 rfl | apply SubR.cons 10 rfl | apply SubR.cons 11 rfl | apply SubR.cons 12 rfl | apply SubR.cons 13 rfl | apply SubR.cons 14 rfl | apply SubR.cons 15 rfl)) s) ?_
      refine GH.step 14 rfl (by kernel_rfl) ?_
      (first | refine Gt.append tb 1 (by first | exact Wt.none | exact Wt.some rfl rfl (by first | exact rfl | decide +kernel)) rfl (.inl ⟨_, rfl⟩) rfl rfl rfl rfl rfl (Src.slice (m := 1) (Rd.blk 0 rfl) (At.all _) rfl (one_of_all rfl)) (by omega) (by omega) ?_ | refine Gt.append tb 2 (by first | exact Wt.none | exact Wt.some rfl rfl (by first | exact rfl | decide +kernel)) rfl (.inl ⟨_, rfl⟩) rfl rfl rfl rfl rfl (Src.slice (m := 1) (Rd.blk 0 rfl) (At.all _) rfl (one_of_all rfl)) (by omega) (by omega) ?_ | refine Gt.append tb 3 (by first | exact Wt.none | exact Wt.some rfl rfl (by first | exact rfl | decide +kernel)) rfl (.inl ⟨_, rfl⟩) rfl rfl rfl rfl rfl (Src.slice (m := 1) (Rd.blk 0 rfl) (At.all _) rfl (one_of_all rfl)) (by omega) (by omega) ?_ | refine Gt.append tb 4 (by first | exact Wt.none | exact Wt.some rfl rfl (by first | exact rfl | decide +kernel)) rfl (.inl ⟨_, rfl⟩) rfl rfl rfl rfl rfl (Src.slice (m := 1) (Rd.blk 0 rfl) (At.all _) rfl (one_of_all rfl)) (by omega) (by omega) ?_ | refine Gt.append tb 5 (by first | exact Wt.none | exact Wt.some rfl rfl (by first | exact rfl | decide +kernel)) rfl (.inl ⟨_, rfl⟩) rfl rfl rfl rfl rfl (Src.slice (m := 1) (Rd.blk 0 rfl) (At.all _) rfl (one_of_all rfl)) (by omega) (by omega) ?_ | refine Gt.append tb 6 (by first | exact Wt.none | exact Wt.some rfl rfl (by first | exact rfl | decide +kernel)) rfl (.inl ⟨_, rfl⟩) rfl rfl rfl rfl rfl (Src.slice (m := 1) (Rd.blk 0 rfl) (At.all _) rfl (one_of_all rfl)) (by omega) (by omega) ?_ | refine Gt.append tb 7 (by first | exact Wt.none | exact Wt.some rfl rfl (by first | exact rfl | decide +kernel)) rfl (.inl ⟨_, rfl⟩) rfl rfl rfl rfl rfl (Src.slice (m := 1) (Rd.blk 0 rfl) (At.all _) rfl (one_of_all rfl)) (by omega) (by omega) ?_ | refine Gt.append tb 8 (by first | exact Wt.none | exact Wt.some rfl rfl (by first | exact rfl | decide +kernel)) rfl (.inl ⟨_, rfl⟩) rfl rfl rfl rfl rfl (Src.slice (m := 1) (Rd.blk 0 rfl) (At.all _) rfl (one_of_all rfl)) (by omega) (by omega) ?_ | refine Gt.append tb 9 (by first | exact Wt.none | exact Wt.some rfl rfl (by first | exact rfl | decide +kernel)) rfl (.inl ⟨_, rfl⟩) rfl rfl rfl rfl rfl (Src.slice (m := 1) (Rd.blk 0 rfl) (At.all _) rfl (one_of_all rfl)) (by omega) (by omega) ?_ | refine Gt.append tb 10 (by first | exact Wt.none | exact Wt.some rfl rfl (by first | exact rfl | decide +kernel)) rfl (.inl ⟨_, rfl⟩) rfl rfl rfl rfl rfl (Src.slice (m := 1) (Rd.blk 0 rfl) (At.all _) rfl (one_of_all rfl)) (by omega) (by omega) ?_ | refine Gt.append tb 11 (by first | exact Wt.none | exact Wt.some rfl rfl (by first | exact rfl | decide +kernel)) rfl (.inl ⟨_, rfl⟩) rfl rfl rfl rfl rfl (Src.slice (m := 1) (Rd.blk 0 rfl) (At.all _) rfl (one_of_all rfl)) (by omega) (by omega) ?_ | refine Gt.append tb 12 (by first | exact Wt.none | exact Wt.some rfl rfl (by first | exact rfl | decide +kernel)) rfl (.inl ⟨_, rfl⟩) rfl rfl rfl rfl rfl (Src.slice (m := 1) (Rd.blk 0 rfl) (At.all _) rfl (one_of_all rfl)) (by omega) (by omega) ?_)
      intro q2 d2
      refine GH.keep (fun _ s => Sat.sub (by repeat (first | exact SubR.nil | apply SubR.cons 0 rfl | apply SubR.cons 1 rfl | apply SubR.cons 2 rfl | apply SubR.cons 3 rfl | apply SubR.cons 4 rfl | apply SubR.cons 5 rfl | apply SubR.cons 6 rfl | apply SubR.cons 7 rfl | apply SubR.cons 8 rfl | apply SubR.cons 9 rfl | apply SubR.cons 10 rfl | apply SubR.cons 11 rfl | apply SubR.cons 12 rfl | apply SubR.cons 13 rfl | apply SubR.cons 14 rfl | apply SubR.cons 15 rfl)) s) ?_
      ((first | refine GH.to 15 ?_ | refine GH.tos 15 ?_); (first | refine GH.to 16 ?_ | refine GH.tos 16 ?_))
      refine GH.step 17 rfl (by kernel_rfl) ?_
      refine Gt.storeAt tb 4 (by first | exact Wt.none | exact Wt.some rfl rfl (by first | exact rfl | decide +kernel)) rfl rfl rfl rfl rfl ?_ rfl ?_
      · show 0 + 0 < 2
        omega
      refine GH.on rfl ?_
      refine GH.fin (by kernel_rfl) ?_
      (repeat (first | refine GK.ro ?_ | (refine GK.box ?_; intro bl) | (refine GK.mkMap ?_; intro bm) | (refine GK.build0 tb ?_; intro bs)))
      refine GQ.fin2 rfl (Rv.tmp rfl) (Rv.tmp rfl) (Γ' := [board b (L ++ [newSh L a c h])]) (fun w s1 => ?_) ?_
      · refine Sl.Sat.shut (q2, d2, ad ++ [e]) (by simp [had]) ?_
        have e1 : ptrs ad ++ List.flatMap (fun v : Value => v.cells.toList) [Value.pointer (some ⟨e, 0, none⟩)] = ptrs (ad ++ [e]) := by rw [ptrs_append]; congr 1; unfold ptrs; rfl
        rw [e1] at s1
        have s2 : Sat [blk e 80 (0, 0) (sheetC ⟨⟨(L.length : Int) + 1, a, c, h, true⟩, [], []⟩ none 0 m), pt m (.map #[] 0), sheets ad L, blk b 70 (0, 0) [.slice q2 (L.length + 1) d2, .bool true], row (.slice q2 (L.length + 1) d2) 78 1 (L.length + 1) (ptrs (ad ++ [e]))] hF w := Sl.Sat.sub (by repeat (first | exact SubR.nil | apply SubR.cons 0 rfl | apply SubR.cons 1 rfl | apply SubR.cons 2 rfl | apply SubR.cons 3 rfl | apply SubR.cons 4 rfl | apply SubR.cons 5 rfl | apply SubR.cons 6 rfl | apply SubR.cons 7 rfl | apply SubR.cons 8 rfl | apply SubR.cons 9 rfl | apply SubR.cons 10 rfl | apply SubR.cons 11 rfl | apply SubR.cons 12 rfl | apply SubR.cons 13 rfl | apply SubR.cons 14 rfl | apply SubR.cons 15 rfl)) s1
        have s3 := sheets_push had (sheet_new (p := ⟨(L.length : Int) + 1, a, c, h, true⟩) hh s2)
        show Sat [sheets (ad ++ [e]) (L ++ [newSh L a c h]), blk b 70 (0, 0) [.slice q2 (L ++ [newSh L a c h]).length d2, .bool true], row (.slice q2 (L ++ [newSh L a c h]).length d2) 78 1 (L ++ [newSh L a c h]).length (ptrs (ad ++ [e]))] hF w
        rw [List.length_append]; exact s3
      · rw [show proposeM L a c h = ((L.length : Int) + 1, 0, L ++ [newSh L a c h]) from by unfold proposeM; rw [if_neg (by rw [hno]; decide), if_neg (by omega)]]; exact ⟨rfl, rfl⟩
end Go.Re
