/- A board and its sheets: what a call finds there. -/
import Derived.Test.YtjphghadogedkaaRvC
set_option linter.unusedSimpArgs false
set_option linter.unusedVariables false
namespace Go.Re
open Go Go.Sl
set_option maxRecDepth 100000
def prs (l : List (By × By)) : List Value := l.flatMap fun x => [str x.1, str x.2]
theorem prs_len (l : List (By × By)) : (prs l).length = l.length * 2 := by unfold prs; exact flatMap_len (fun _ => rfl)
theorem prs_one (l : List (By × By)) : ∀ u ∈ prs l, u.oneCell' = true := by
  unfold prs; intro u hu
  obtain ⟨x, _, hx⟩ := List.mem_flatMap.1 hu
  simp at hx; rcases hx with rfl | rfl <;> rfl
theorem prs_append (a b : List (By × By)) : prs (a ++ b) = prs a ++ prs b := by unfold prs; simp
theorem prs_nil : prs [] = [] := rfl
def ptrs (l : List Nat) : List Value := l.map fun a => .pointer (some ⟨a, 0, none⟩)
theorem ptrs_len (l : List Nat) : (ptrs l).length = l.length := by unfold ptrs; simp
theorem ptrs_get {l : List Nat} {i a : Nat} (h : l[i]? = some a) : (ptrs l)[i]? = some (.pointer (some ⟨a, 0, none⟩)) := by unfold ptrs; simp [h]
theorem ptrs_append (a b : List Nat) : ptrs (a ++ b) = ptrs a ++ ptrs b := by unfold ptrs; simp
structure Sh where
  pr : Pr
  talk : List (By × By)
  votes : List (By × Int)
def nsl : Value := .slice none 0 0
def sheetC (s : Sh) (p : Option Addr) (c m : Nat) : List Value := propC s.pr (.slice none 0 0) (.slice none 0 0) (.slice p s.talk.length c) ++ [.map (some m)]
theorem sheetC_get {s : Sh} {p : Option Addr} {c m i : Nat} {v : Value} (h : (propC s.pr (.slice none 0 0) (.slice none 0 0) (.slice p s.talk.length c))[i]? = some v) : (sheetC s p c m)[i]? = some v := by
  unfold sheetC
  rw [List.getElem?_append_left (List.getElem?_eq_some_iff.1 h).1]; exact h
theorem sheetC_m {s : Sh} {p : Option Addr} {c m : Nat} (hh : s.pr.h.length = 32) : (sheetC s p c m)[0 + 39]? = some (.map (some m)) := by
  unfold sheetC
  rw [List.getElem?_append_right (by rw [propC_len hh]; omega), propC_len hh]; rfl
theorem sheetC_len {s : Sh} {p : Option Addr} {c m : Nat} (hh : s.pr.h.length = 32) : (sheetC s p c m).length = 40 := by
  unfold sheetC; simp [propC_len hh]
def sheet (a : Nat) (s : Sh) : HProp := exs (fun _ : Nat × Option Addr × Nat => s.pr.h.length = 32) fun x => [blk a 80 (0, 0) (sheetC s x.2.1 x.2.2 x.1), row (.slice x.2.1 s.talk.length x.2.2) 67 2 s.talk.length (prs s.talk), mp x.1 (encV s.votes)]
theorem zip_set {ad : List Nat} {L : List Sh} {i a : Nat} {s : Sh} (ha : ad[i]? = some a) : (List.zipWith sheet ad L).set i (sheet a s) = List.zipWith sheet ad (L.set i s) := by
  refine List.ext_getElem? fun k => ?_
  rw [List.getElem?_set, List.getElem?_zipWith, List.getElem?_zipWith, List.getElem?_set]
  by_cases hk : i = k
  · subst hk
    simp only [if_true, ha, List.length_zipWith]
    have hi := (List.getElem?_eq_some_iff.1 ha).1
    by_cases hL : i < L.length
    · rw [if_pos (by omega), if_pos hL]
    · rw [if_neg (by omega), if_neg hL]
  · simp only [if_neg hk]
def sheets (ad : List Nat) (L : List Sh) : HProp := star (List.zipWith sheet ad L)
theorem Sat.pull {Γ : List HProp} {ad : List Nat} {L : List Sh} {i a : Nat} {s : Sh} {hF : Hp} {w : World} (ha : ad[i]? = some a) (hs : L[i]? = some s) (h : Sat (sheets ad L :: Γ) hF w) : Sat (sheet a s :: star ((List.zipWith sheet ad L).eraseIdx i) :: Γ) hF w :=
  Sl.Sat.star_pull (i := i) (by rw [List.getElem?_zipWith, ha, hs]) h
theorem Sat.put {Γ : List HProp} {ad : List Nat} {L : List Sh} {i a : Nat} {s : Sh} {hF : Hp} {w : World} (ha : ad[i]? = some a) (hL : i < L.length) (h : Sat (sheet a s :: star ((List.zipWith sheet ad L).eraseIdx i) :: Γ) hF w) : Sat (sheets ad (L.set i s) :: Γ) hF w := by
  have hi := (List.getElem?_eq_some_iff.1 ha).1
  have := Sl.Sat.star_put (l := List.zipWith sheet ad L) (i := i) (by rw [List.length_zipWith]; omega) h
  rw [zip_set ha] at this; exact this
theorem sheets_nil {Γ : List HProp} {hF : Hp} {w : World} (h : Sat Γ hF w) : Sat (sheets [] [] :: Γ) hF w := Sl.Sat.star_nil h
theorem ptrs_nil : ptrs [] = [] := rfl
def board (b : Nat) (L : List Sh) : HProp := exs (fun x : Option Addr × Nat × List Nat => x.2.2.length = L.length) fun x =>
  [sheets x.2.2 L, blk b 70 (0, 0) [.slice x.1 L.length x.2.1, .bool true], row (.slice x.1 L.length x.2.1) 78 1 L.length (ptrs x.2.2)]
theorem row_none {Γ : List HProp} {e sz n c : Nat} {xs : List Value} {hF : Hp} {w : World} (s : Sat (row (.slice none n c) e sz n xs :: Γ) hF w) : n = 0 := by
  obtain ⟨x, hx, _⟩ := Sl.Sat.opens s
  cases x with
  | none => exact hx.2.1
  | some q => obtain ⟨_, _, _, _⟩ := q; cases hx.1
set_option maxRecDepth 100000
set_option maxHeartbeats 4000000
attribute [local irreducible] GK GO Yl Wt Ef Hd GH KH wpListIn Code.wpIn toBody roundQ poolOf rs RS YieldOk IterOk VOk row star exs mp lp Sat pt FnOk Rd bodyPost bodyPostM Lv Ret Exit.then Exit.inBlock Exit.noGoto Int.decLt Int.decLe Int.instDecidableEq
attribute [local irreducible] u8s strs likeTo propC encV prs ptrs sheetC sheets
set_option pp.deepTerms true
set_option pp.maxSteps 1000000
variable {hF H : Hp}
theorem clonePairs_ok {l : List (By × By)} {p : Option Addr} {c : Nat} (n1 : l.length ≤ 1099511627776) :
    FnOk Go.Proofs.Try.prog 38 [.slice p l.length c] [row (.slice p l.length c) 67 2 l.length (prs l)] hF (fun v' Γ => Γ = [row v' 67 2 l.length (prs l), row (.slice p l.length c) 67 2 l.length (prs l)]) := by
  refine FnOk.intro 8 Go.Proofs.Try.func38 rfl rfl fun w0 => ?_
  cases p with
  | none =>
    refine GK.pure (φ := l = []) (fun w s => ?_) fun hl0 => ?_
    · exact List.length_eq_zero_iff.1 (row_none s)
    subst hl0
    (repeat (first | refine GK.ro ?_ | (refine GK.box ?_; intro bl) | (refine GK.mkMap ?_; intro bm) | (refine GK.build0 tb ?_; intro bs)))
    refine GQ.fin1 rfl (Rv.tmp rfl) (Γ' := [row (.slice none 0 0) 67 2 0 [], row (.slice none 0 c) 67 2 0 (prs [])]) (fun w s => Sat.row_nil s) ?_
    rw [show prs [] = [] from by unfold prs; rfl]; rfl
  | some a =>
    (repeat (first | refine GK.ro ?_ | (refine GK.box ?_; intro bl) | (refine GK.mkMap ?_; intro bm) | (refine GK.build0 tb ?_; intro bs)))
    refine GL.cons ?_
    refine Gt.append0 tb 0 (by first | exact Wt.none | exact Wt.some rfl rfl (by first | exact rfl | decide +kernel)) rfl (.inl ⟨_, rfl⟩) rfl rfl rfl rfl rfl (Src.row 1 rfl (prs_len l) (prs_one l)) (by omega) (by omega) ?_
    intro q d
    (repeat (first | refine GK.ro ?_ | (refine GK.box ?_; intro bl) | (refine GK.mkMap ?_; intro bm) | (refine GK.build0 tb ?_; intro bs)))
    exact GQ.fin1 rfl (Rv.tmp rfl) (fun _ s => Sat.sub (by repeat (first | exact SubR.nil | apply SubR.cons 0 rfl | apply SubR.cons 1 rfl | apply SubR.cons 2 rfl | apply SubR.cons 3 rfl | apply SubR.cons 4 rfl | apply SubR.cons 5 rfl | apply SubR.cons 6 rfl | apply SubR.cons 7 rfl | apply SubR.cons 8 rfl | apply SubR.cons 9 rfl | apply SubR.cons 10 rfl | apply SubR.cons 11 rfl | apply SubR.cons 12 rfl | apply SubR.cons 13 rfl | apply SubR.cons 14 rfl | apply SubR.cons 15 rfl)) s) rfl
theorem new_ok : FnOk Go.Proofs.Try.prog 14 [] [] hF (fun v Γ => ∃ b, v = .pointer (some ⟨b, 0, none⟩) ∧ Γ = [board b []]) := by
  refine FnOk.intro 3 Go.Proofs.Try.func14 rfl rfl fun w0 => ?_
  (repeat (first | refine GK.ro ?_ | (refine GK.box ?_; intro bl) | (refine GK.mkMap ?_; intro bm) | (refine GK.build0 tb ?_; intro bs)))
  refine GQ.fin1 rfl (Rv.tmp rfl) (Γ' := [board bl []]) (fun w s => ?_) ⟨_, rfl, rfl⟩
  refine Sat.shut (none, 0, []) rfl ?_
  refine sheets_nil ?_
  refine Sl.Sat.perm (.swap _ _ _) ?_
  rw [ptrs_nil]
  exact Sat.row_nil s
theorem none_ok {b : Nat} {lv : Value} {m : Bool} : FnOk Go.Proofs.Try.prog 34 [.pointer (some ⟨b, 0, none⟩)] [blk b 70 (0, 0) [lv, .bool m]] hF (fun v Γ => v = .bool (!m) ∧ Γ = [blk b 70 (0, 0) [lv, .bool m]]) := by
  refine FnOk.intro 12 Go.Proofs.Try.func34 rfl rfl fun w0 => ?_
  (repeat' (first | refine GK.ro ?_ | (refine GK.box ?_; intro bl) | (refine GK.mkMap ?_; intro bm) | (refine GK.build0 tb ?_; intro bs) | (first | refine G.condP rfl (fun hb => ?_) (fun hb => ?_) | refine G.condN rfl (fun hb => ?_) (fun hb => ?_) | refine G.cond rfl (fun hb => ?_) (fun hb => ?_)) | ((fail_if_success refine GL.fork (b := true) rfl rfl ?_ ?_); (fail_if_success refine GL.fork (b := false) rfl rfl ?_ ?_); first | refine GL.forkP rfl rfl (fun hb => ?_) (fun hb => ?_) | refine GL.forkN rfl rfl (fun hb => ?_) (fun hb => ?_) | refine GL.fork rfl rfl (fun hb => ?_) (fun hb => ?_)) | ((fail_if_success refine GL.forkPick (b := true) rfl ?_ ?_); (fail_if_success refine GL.forkPick (b := false) rfl ?_ ?_); refine GL.forkPick rfl (fun hb => ?_) (fun hb => ?_))))
  all_goals exact GQ.fin1 rfl (Rv.tmp rfl) (fun _ s => Sat.sub (by repeat (first | exact SubR.nil | apply SubR.cons 0 rfl | apply SubR.cons 1 rfl | apply SubR.cons 2 rfl | apply SubR.cons 3 rfl | apply SubR.cons 4 rfl | apply SubR.cons 5 rfl | apply SubR.cons 6 rfl | apply SubR.cons 7 rfl | apply SubR.cons 8 rfl | apply SubR.cons 9 rfl | apply SubR.cons 10 rfl | apply SubR.cons 11 rfl | apply SubR.cons 12 rfl | apply SubR.cons 13 rfl | apply SubR.cons 14 rfl | apply SubR.cons 15 rfl)) s) ⟨rfl, rfl⟩
theorem none_nil : FnOk Go.Proofs.Try.prog 34 [.pointer none] [] hF (fun v Γ => v = .bool true ∧ Γ = []) := by
  refine FnOk.intro 12 Go.Proofs.Try.func34 rfl rfl fun w0 => ?_
  (repeat' (first | refine GK.ro ?_ | (refine GK.box ?_; intro bl) | (refine GK.mkMap ?_; intro bm) | (refine GK.build0 tb ?_; intro bs) | (first | refine G.condP rfl (fun hb => ?_) (fun hb => ?_) | refine G.condN rfl (fun hb => ?_) (fun hb => ?_) | refine G.cond rfl (fun hb => ?_) (fun hb => ?_)) | ((fail_if_success refine GL.fork (b := true) rfl rfl ?_ ?_); (fail_if_success refine GL.fork (b := false) rfl rfl ?_ ?_); first | refine GL.forkP rfl rfl (fun hb => ?_) (fun hb => ?_) | refine GL.forkN rfl rfl (fun hb => ?_) (fun hb => ?_) | refine GL.fork rfl rfl (fun hb => ?_) (fun hb => ?_)) | ((fail_if_success refine GL.forkPick (b := true) rfl ?_ ?_); (fail_if_success refine GL.forkPick (b := false) rfl ?_ ?_); refine GL.forkPick rfl (fun hb => ?_) (fun hb => ?_))))
  all_goals exact GQ.fin1 rfl (Rv.tmp rfl) (fun _ s => Sat.sub (by repeat (first | exact SubR.nil | apply SubR.cons 0 rfl | apply SubR.cons 1 rfl | apply SubR.cons 2 rfl | apply SubR.cons 3 rfl | apply SubR.cons 4 rfl | apply SubR.cons 5 rfl | apply SubR.cons 6 rfl | apply SubR.cons 7 rfl | apply SubR.cons 8 rfl | apply SubR.cons 9 rfl | apply SubR.cons 10 rfl | apply SubR.cons 11 rfl | apply SubR.cons 12 rfl | apply SubR.cons 13 rfl | apply SubR.cons 14 rfl | apply SubR.cons 15 rfl)) s) ⟨rfl, rfl⟩
/-- Which sheet. -/
def atM (ad : List Nat) (id : Int) : Option Nat := if id < 1 then none else ad[(id - 1).toNat]?
def ptrO : Option Nat → Value
  | none => .pointer none
  | some a => .pointer (some ⟨a, 0, none⟩)
theorem at_nil {id : Int} : FnOk Go.Proofs.Try.prog 36 [.pointer none, .int .i64 id] [] hF (fun v Γ => v = .pointer none ∧ Γ = []) := by
  refine FnOk.intro 28 Go.Proofs.Try.func36 rfl rfl fun w0 => ?_
  (repeat (first | refine GK.ro ?_ | (refine GK.box ?_; intro bl) | (refine GK.mkMap ?_; intro bm) | (refine GK.build0 tb ?_; intro bs)))
  refine GL.cons ?_; refine GO.callA (fun hF' hle hH => none_nil) (by first | exact Wt.none | exact Wt.some rfl rfl (by first | exact rfl | decide +kernel)) (by kernel_rfl) rfl rfl (by repeat (first | exact SubR.nil | apply SubR.cons 0 rfl | apply SubR.cons 1 rfl | apply SubR.cons 2 rfl | apply SubR.cons 3 rfl | apply SubR.cons 4 rfl | apply SubR.cons 5 rfl | apply SubR.cons 6 rfl | apply SubR.cons 7 rfl | apply SubR.cons 8 rfl | apply SubR.cons 9 rfl | apply SubR.cons 10 rfl | apply SubR.cons 11 rfl | apply SubR.cons 12 rfl | apply SubR.cons 13 rfl | apply SubR.cons 14 rfl | apply SubR.cons 15 rfl)) ?_
  rintro v Γ' ⟨rfl, rfl⟩
  (repeat' (first | refine GK.ro ?_ | (refine GK.box ?_; intro bl) | (refine GK.mkMap ?_; intro bm) | (refine GK.build0 tb ?_; intro bs) | (first | refine G.condP rfl (fun hb => ?_) (fun hb => ?_) | refine G.condN rfl (fun hb => ?_) (fun hb => ?_) | refine G.cond rfl (fun hb => ?_) (fun hb => ?_)) | ((fail_if_success refine GL.fork (b := true) rfl rfl ?_ ?_); (fail_if_success refine GL.fork (b := false) rfl rfl ?_ ?_); first | refine GL.forkP rfl rfl (fun hb => ?_) (fun hb => ?_) | refine GL.forkN rfl rfl (fun hb => ?_) (fun hb => ?_) | refine GL.fork rfl rfl (fun hb => ?_) (fun hb => ?_)) | ((fail_if_success refine GL.forkPick (b := true) rfl ?_ ?_); (fail_if_success refine GL.forkPick (b := false) rfl ?_ ?_); refine GL.forkPick rfl (fun hb => ?_) (fun hb => ?_))))
  all_goals exact GQ.fin1 rfl (Rv.tmp rfl) (fun _ s => Sat.sub (by repeat (first | exact SubR.nil | apply SubR.cons 0 rfl | apply SubR.cons 1 rfl | apply SubR.cons 2 rfl | apply SubR.cons 3 rfl | apply SubR.cons 4 rfl | apply SubR.cons 5 rfl | apply SubR.cons 6 rfl | apply SubR.cons 7 rfl | apply SubR.cons 8 rfl | apply SubR.cons 9 rfl | apply SubR.cons 10 rfl | apply SubR.cons 11 rfl | apply SubR.cons 12 rfl | apply SubR.cons 13 rfl | apply SubR.cons 14 rfl | apply SubR.cons 15 rfl)) s) ⟨rfl, rfl⟩
theorem at_no {id : Int} {b : Nat} {lv : Value} : FnOk Go.Proofs.Try.prog 36 [.pointer (some ⟨b, 0, none⟩), .int .i64 id] [blk b 70 (0, 0) [lv, .bool false]] hF (fun v Γ => v = .pointer none ∧ Γ = [blk b 70 (0, 0) [lv, .bool false]]) := by
  refine FnOk.intro 28 Go.Proofs.Try.func36 rfl rfl fun w0 => ?_
  (repeat (first | refine GK.ro ?_ | (refine GK.box ?_; intro bl) | (refine GK.mkMap ?_; intro bm) | (refine GK.build0 tb ?_; intro bs)))
  refine GL.cons ?_; refine GO.callA (fun hF' hle hH => none_ok) (by first | exact Wt.none | exact Wt.some rfl rfl (by first | exact rfl | decide +kernel)) (by kernel_rfl) rfl rfl (by repeat (first | exact SubR.nil | apply SubR.cons 0 rfl | apply SubR.cons 1 rfl | apply SubR.cons 2 rfl | apply SubR.cons 3 rfl | apply SubR.cons 4 rfl | apply SubR.cons 5 rfl | apply SubR.cons 6 rfl | apply SubR.cons 7 rfl | apply SubR.cons 8 rfl | apply SubR.cons 9 rfl | apply SubR.cons 10 rfl | apply SubR.cons 11 rfl | apply SubR.cons 12 rfl | apply SubR.cons 13 rfl | apply SubR.cons 14 rfl | apply SubR.cons 15 rfl)) ?_
  rintro v Γ' ⟨rfl, rfl⟩
  (repeat' (first | refine GK.ro ?_ | (refine GK.box ?_; intro bl) | (refine GK.mkMap ?_; intro bm) | (refine GK.build0 tb ?_; intro bs) | (first | refine G.condP rfl (fun hb => ?_) (fun hb => ?_) | refine G.condN rfl (fun hb => ?_) (fun hb => ?_) | refine G.cond rfl (fun hb => ?_) (fun hb => ?_)) | ((fail_if_success refine GL.fork (b := true) rfl rfl ?_ ?_); (fail_if_success refine GL.fork (b := false) rfl rfl ?_ ?_); first | refine GL.forkP rfl rfl (fun hb => ?_) (fun hb => ?_) | refine GL.forkN rfl rfl (fun hb => ?_) (fun hb => ?_) | refine GL.fork rfl rfl (fun hb => ?_) (fun hb => ?_)) | ((fail_if_success refine GL.forkPick (b := true) rfl ?_ ?_); (fail_if_success refine GL.forkPick (b := false) rfl ?_ ?_); refine GL.forkPick rfl (fun hb => ?_) (fun hb => ?_))))
  all_goals exact GQ.fin1 rfl (Rv.tmp rfl) (fun _ s => Sat.sub (by repeat (first | exact SubR.nil | apply SubR.cons 0 rfl | apply SubR.cons 1 rfl | apply SubR.cons 2 rfl | apply SubR.cons 3 rfl | apply SubR.cons 4 rfl | apply SubR.cons 5 rfl | apply SubR.cons 6 rfl | apply SubR.cons 7 rfl | apply SubR.cons 8 rfl | apply SubR.cons 9 rfl | apply SubR.cons 10 rfl | apply SubR.cons 11 rfl | apply SubR.cons 12 rfl | apply SubR.cons 13 rfl | apply SubR.cons 14 rfl | apply SubR.cons 15 rfl)) s) ⟨rfl, rfl⟩
theorem at_ok {id : Int} {b c n : Nat} {p : Option Addr} {ad : List Nat} (hn : ad.length = n) (hl : ad.length ≤ 1099511627776) :
    FnOk Go.Proofs.Try.prog 36 [.pointer (some ⟨b, 0, none⟩), .int .i64 id] [blk b 70 (0, 0) [.slice p n c, .bool true], row (.slice p n c) 78 1 n (ptrs ad)] hF
      (fun v Γ => v = ptrO (atM ad id) ∧ Γ = [blk b 70 (0, 0) [.slice p n c, .bool true], row (.slice p n c) 78 1 n (ptrs ad)]) := by
  subst hn
  refine FnOk.intro 28 Go.Proofs.Try.func36 rfl rfl fun w0 => ?_
  (repeat (first | refine GK.ro ?_ | (refine GK.box ?_; intro bl) | (refine GK.mkMap ?_; intro bm) | (refine GK.build0 tb ?_; intro bs)))
  refine GL.cons ?_; refine GO.callA (fun hF' hle hH => none_ok) (by first | exact Wt.none | exact Wt.some rfl rfl (by first | exact rfl | decide +kernel)) (by kernel_rfl) rfl rfl (by repeat (first | exact SubR.nil | apply SubR.cons 0 rfl | apply SubR.cons 1 rfl | apply SubR.cons 2 rfl | apply SubR.cons 3 rfl | apply SubR.cons 4 rfl | apply SubR.cons 5 rfl | apply SubR.cons 6 rfl | apply SubR.cons 7 rfl | apply SubR.cons 8 rfl | apply SubR.cons 9 rfl | apply SubR.cons 10 rfl | apply SubR.cons 11 rfl | apply SubR.cons 12 rfl | apply SubR.cons 13 rfl | apply SubR.cons 14 rfl | apply SubR.cons 15 rfl)) ?_
  rintro v Γ' ⟨rfl, rfl⟩
  (repeat' (first | refine GK.ro ?_ | (refine GK.box ?_; intro bl) | (refine GK.mkMap ?_; intro bm) | (refine GK.build0 tb ?_; intro bs) | (first | refine G.condP rfl (fun hb => ?_) (fun hb => ?_) | refine G.condN rfl (fun hb => ?_) (fun hb => ?_) | refine G.cond rfl (fun hb => ?_) (fun hb => ?_)) | ((fail_if_success refine GL.fork (b := true) rfl rfl ?_ ?_); (fail_if_success refine GL.fork (b := false) rfl rfl ?_ ?_); first | refine GL.forkP rfl rfl (fun hb => ?_) (fun hb => ?_) | refine GL.forkN rfl rfl (fun hb => ?_) (fun hb => ?_) | refine GL.fork rfl rfl (fun hb => ?_) (fun hb => ?_)) | ((fail_if_success refine GL.forkPick (b := true) rfl ?_ ?_); (fail_if_success refine GL.forkPick (b := false) rfl ?_ ?_); refine GL.forkPick rfl (fun hb => ?_) (fun hb => ?_))))
  · refine GQ.fin1 rfl (Rv.tmp rfl) (fun _ s => Sat.sub (by repeat (first | exact SubR.nil | apply SubR.cons 0 rfl | apply SubR.cons 1 rfl | apply SubR.cons 2 rfl | apply SubR.cons 3 rfl | apply SubR.cons 4 rfl | apply SubR.cons 5 rfl | apply SubR.cons 6 rfl | apply SubR.cons 7 rfl | apply SubR.cons 8 rfl | apply SubR.cons 9 rfl | apply SubR.cons 10 rfl | apply SubR.cons 11 rfl | apply SubR.cons 12 rfl | apply SubR.cons 13 rfl | apply SubR.cons 14 rfl | apply SubR.cons 15 rfl)) s) ⟨?_, rfl⟩
    unfold atM; rw [if_pos hb]; rfl
  · refine GQ.fin1 rfl (Rv.tmp rfl) (fun _ s => Sat.sub (by repeat (first | exact SubR.nil | apply SubR.cons 0 rfl | apply SubR.cons 1 rfl | apply SubR.cons 2 rfl | apply SubR.cons 3 rfl | apply SubR.cons 4 rfl | apply SubR.cons 5 rfl | apply SubR.cons 6 rfl | apply SubR.cons 7 rfl | apply SubR.cons 8 rfl | apply SubR.cons 9 rfl | apply SubR.cons 10 rfl | apply SubR.cons 11 rfl | apply SubR.cons 12 rfl | apply SubR.cons 13 rfl | apply SubR.cons 14 rfl | apply SubR.cons 15 rfl)) s) ⟨?_, rfl⟩
    unfold atM
    rw [if_neg (by omega), List.getElem?_eq_none (by omega)]; rfl
  · rename_i h1
    obtain ⟨a, ha⟩ : ∃ a, ad[(id - 1).toNat]? = some a := ⟨_, List.getElem?_eq_getElem (by omega)⟩
    refine GK.rowPtr 1 rfl (by omega) fun b2 hp => ?_
    subst hp
    have k1 : (ptrs ad)[0 + (id - 1).toNat * 1]? = some (.pointer (some ⟨a, 0, none⟩)) := by rw [Nat.zero_add, Nat.mul_one]; exact ptrs_get ha
    (repeat (first | refine GK.ro ?_ | (refine GK.box ?_; intro bl) | (refine GK.mkMap ?_; intro bm) | (refine GK.build0 tb ?_; intro bs)))
    refine GQ.fin1 rfl (Rv.tmp rfl) (fun _ s => Sat.sub (by repeat (first | exact SubR.nil | apply SubR.cons 0 rfl | apply SubR.cons 1 rfl | apply SubR.cons 2 rfl | apply SubR.cons 3 rfl | apply SubR.cons 4 rfl | apply SubR.cons 5 rfl | apply SubR.cons 6 rfl | apply SubR.cons 7 rfl | apply SubR.cons 8 rfl | apply SubR.cons 9 rfl | apply SubR.cons 10 rfl | apply SubR.cons 11 rfl | apply SubR.cons 12 rfl | apply SubR.cons 13 rfl | apply SubR.cons 14 rfl | apply SubR.cons 15 rfl)) s) ⟨?_, rfl⟩
    unfold atM; rw [if_neg h1, ha]; rfl
end Go.Re
