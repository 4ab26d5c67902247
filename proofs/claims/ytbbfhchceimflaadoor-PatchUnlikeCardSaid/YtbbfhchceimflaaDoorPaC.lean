/- The document's names and paths. -/
import Derived.Test.YtbbfhchceimflaaDoorPaB
set_option linter.unusedSimpArgs false
set_option linter.unusedVariables false
namespace Go.Pa
open Go Go.Sl Go.Lb
def smallM (c : UInt8) : Bool := decide (97 ≤ c.toNat) && decide (c.toNat ≤ 122)
def digitM (c : UInt8) : Bool := decide (48 ≤ c.toNat) && decide (c.toNat ≤ 57)
theorem let_false (c : UInt8) : letM c false = (smallM c || digitM c || decide (c.toNat = 45)) := by unfold letM smallM digitM; simp
theorem let_true (c : UInt8) : letM c true = (smallM c || digitM c || decide (c.toNat = 45) || decide (c.toNat = 46) || decide (c.toNat = 95)) := by
  unfold letM smallM digitM; simp [Bool.or_assoc]
theorem head_cons (c : UInt8) (r : Ky) : headM (c :: r) = smallM c := rfl
def strs (l : List Ky) : List Value := l.map str
theorem strs_append (a b : List Ky) : strs (a ++ b) = strs a ++ strs b := by unfold strs; simp
theorem strs_one (p : Ky) : strs [p] = [str p] := rfl
theorem strs_nil : strs [] = [] := rfl
theorem strs_len (l : List Ky) : (strs l).length = l.length := by unfold strs; simp
theorem strs_get {l : List Ky} {i : Nat} {p : Ky} (h : l[i]? = some p) : (strs l)[i]? = some (str p) := by unfold strs; simp [h]
theorem strs_cell (l : List Ky) : ∀ u ∈ strs l, u.oneCell' = true := by unfold strs; simp [str, Value.oneCell']
abbrev srow (v : Value) (l : List Ky) : HProp := row v 9 1 l.length (strs l)
theorem srow_nil {Γ : List HProp} {hF : Hp} {w : World} (s : Sat Γ hF w) : Sat (srow (.slice none 0 0) [] :: Γ) hF w := s.row_nil
theorem find_at {s : Ky} {b i : Nat} (hb : b ≤ i) (h : s[i]? = some 47) (hn : ∀ j, b ≤ j → j < i → s[j]? ≠ some 47) : (s.drop b).findIdx? (· == (47 : UInt8)) = some (i - b) := by
  have hi := (List.getElem?_eq_some_iff.1 h).1
  refine List.findIdx?_eq_some_iff_getElem.2 ⟨by simp; omega, ?_, fun j hj => ?_⟩
  · have := (List.getElem?_eq_some_iff.1 h).2
    simp [show b + (i - b) = i by omega, this]
  · have := hn (b + j) (by omega) (by omega)
    rw [List.getElem?_eq_getElem (by omega)] at this
    simp
    intro e; exact this (by rw [e])
theorem find_no {s : Ky} {b : Nat} (hn : ∀ j, b ≤ j → j < s.length → s[j]? ≠ some 47) : (s.drop b).findIdx? (· == (47 : UInt8)) = none := by
  refine List.findIdx?_eq_none_iff.2 fun x hx => ?_
  obtain ⟨j, hj⟩ := List.getElem?_of_mem hx
  rw [List.getElem?_drop] at hj
  have := hn (b + j) (by omega) (List.getElem?_eq_some_iff.1 hj).1
  rw [hj] at this
  simp; intro e; exact this (by rw [e])
theorem en_all : ∀ (l : List Ky) (i : Nat), (en i l).all okP = (decide (i + l.length ≤ 8 ∨ l = []) && l.all partM)
  | [], i => by simp [en]
  | p :: r, i => by
    rw [en, List.all_cons, en_all r (i + 1), List.all_cons, Bool.eq_iff_iff]
    unfold okP
    simp
    constructor
    · rintro ⟨⟨h1, h2⟩, h3, h4⟩
      refine ⟨?_, h2, h4⟩
      rcases h3 with h3 | rfl
      · omega
      · simp; omega
    · rintro ⟨h1, h2, h3⟩
      exact ⟨⟨by omega, h2⟩, .inl (by omega), h3⟩
theorem splitM_ne (s : Ky) : splitM s ≠ [] := by
  cases s with
  | nil => simp [splitM]
  | cons c r => unfold splitM; split <;> (try split) <;> simp
theorem path_eq (s : Ky) : pathM s = (decide (s.length ≤ 64) && (splitM s).all partM && decide ((splitM s).length ≤ 8)) := by
  unfold pathM
  rw [en_all]
  simp [splitM_ne s, Bool.and_assoc, Bool.and_comm]
set_option maxRecDepth 100000
set_option maxHeartbeats 4000000
attribute [local irreducible] GK GO Yl Wt Ef Hd GH KH wpListIn Code.wpIn toBody roundQ poolOf rs RS YieldOk IterOk VOk row star exs mp lp Sat pt FnOk Rd bodyPost bodyPostM Lv Ret Exit.then Exit.inBlock Exit.noGoto Int.decLt Int.decLe Int.instDecidableEq
attribute [local irreducible] letM wordM splitM okP cutM fact smallM digitM partM strs upTo pathM headM
set_option pp.deepTerms true
set_option pp.maxSteps 1000000
variable {hF : Hp}
theorem rsmall_ok (c : UInt8) : FnOk Go.Proofs.Tryd.prog 70 [.int .u8 c.toNat] [] hF (fun v Γ => v = .bool (smallM c) ∧ Γ = []) := by
  refine FnOk.intro 9 Go.Proofs.Tryd.func70 rfl rfl fun w0 => ?_
  (repeat' (first | refine GK.ro ?_ | (refine GK.box ?_; intro bl) | (refine GK.mkMap ?_; intro bm) | (refine GK.build0 tb ?_; intro bs) | (first | refine G.condP rfl (fun hb => ?_) (fun hb => ?_) | refine G.condN rfl (fun hb => ?_) (fun hb => ?_) | refine G.cond rfl (fun hb => ?_) (fun hb => ?_)) | ((fail_if_success refine GL.fork (b := true) rfl rfl ?_ ?_); (fail_if_success refine GL.fork (b := false) rfl rfl ?_ ?_); first | refine GL.forkP rfl rfl (fun hb => ?_) (fun hb => ?_) | refine GL.forkN rfl rfl (fun hb => ?_) (fun hb => ?_) | refine GL.fork rfl rfl (fun hb => ?_) (fun hb => ?_)) | ((fail_if_success refine GL.forkPick (b := true) rfl ?_ ?_); (fail_if_success refine GL.forkPick (b := false) rfl ?_ ?_); refine GL.forkPick rfl (fun hb => ?_) (fun hb => ?_))))
  all_goals (refine GQ.fin1 rfl (Rv.tmp rfl) (fun _ s => Sat.sub (by repeat (first | exact SubR.nil | apply SubR.cons 0 rfl | apply SubR.cons 1 rfl | apply SubR.cons 2 rfl | apply SubR.cons 3 rfl | apply SubR.cons 4 rfl | apply SubR.cons 5 rfl | apply SubR.cons 6 rfl | apply SubR.cons 7 rfl | apply SubR.cons 8 rfl | apply SubR.cons 9 rfl | apply SubR.cons 10 rfl | apply SubR.cons 11 rfl | apply SubR.cons 12 rfl | apply SubR.cons 13 rfl | apply SubR.cons 14 rfl | apply SubR.cons 15 rfl)) s) ⟨?_, rfl⟩; unfold smallM; (congr 1; rw [Bool.eq_iff_iff]; first | (simp [*]; done) | (simp [*]; omega) | (simp at *; omega) | (simp_all; omega)))
theorem rdigit_ok (c : UInt8) : FnOk Go.Proofs.Tryd.prog 71 [.int .u8 c.toNat] [] hF (fun v Γ => v = .bool (digitM c) ∧ Γ = []) := by
  refine FnOk.intro 9 Go.Proofs.Tryd.func71 rfl rfl fun w0 => ?_
  (repeat' (first | refine GK.ro ?_ | (refine GK.box ?_; intro bl) | (refine GK.mkMap ?_; intro bm) | (refine GK.build0 tb ?_; intro bs) | (first | refine G.condP rfl (fun hb => ?_) (fun hb => ?_) | refine G.condN rfl (fun hb => ?_) (fun hb => ?_) | refine G.cond rfl (fun hb => ?_) (fun hb => ?_)) | ((fail_if_success refine GL.fork (b := true) rfl rfl ?_ ?_); (fail_if_success refine GL.fork (b := false) rfl rfl ?_ ?_); first | refine GL.forkP rfl rfl (fun hb => ?_) (fun hb => ?_) | refine GL.forkN rfl rfl (fun hb => ?_) (fun hb => ?_) | refine GL.fork rfl rfl (fun hb => ?_) (fun hb => ?_)) | ((fail_if_success refine GL.forkPick (b := true) rfl ?_ ?_); (fail_if_success refine GL.forkPick (b := false) rfl ?_ ?_); refine GL.forkPick rfl (fun hb => ?_) (fun hb => ?_))))
  all_goals (refine GQ.fin1 rfl (Rv.tmp rfl) (fun _ s => Sat.sub (by repeat (first | exact SubR.nil | apply SubR.cons 0 rfl | apply SubR.cons 1 rfl | apply SubR.cons 2 rfl | apply SubR.cons 3 rfl | apply SubR.cons 4 rfl | apply SubR.cons 5 rfl | apply SubR.cons 6 rfl | apply SubR.cons 7 rfl | apply SubR.cons 8 rfl | apply SubR.cons 9 rfl | apply SubR.cons 10 rfl | apply SubR.cons 11 rfl | apply SubR.cons 12 rfl | apply SubR.cons 13 rfl | apply SubR.cons 14 rfl | apply SubR.cons 15 rfl)) s) ⟨?_, rfl⟩; unfold digitM; (congr 1; rw [Bool.eq_iff_iff]; first | (simp [*]; done) | (simp [*]; omega) | (simp at *; omega) | (simp_all; omega)))
theorem rname_ok (s : Ky) (hs : s.length < 1000000000) : FnOk Go.Proofs.Tryd.prog 43 [str s] [] hF (fun v Γ => v = .bool (nameM s) ∧ Γ = []) := by
  refine FnOk.intro 42 Go.Proofs.Tryd.func43 rfl rfl fun w0 => ?_
  (repeat' (first | refine GK.ro ?_ | (refine GK.box ?_; intro bl) | (refine GK.mkMap ?_; intro bm) | (refine GK.build0 tb ?_; intro bs) | (first | refine G.condP rfl (fun hb => ?_) (fun hb => ?_) | refine G.condN rfl (fun hb => ?_) (fun hb => ?_) | refine G.cond rfl (fun hb => ?_) (fun hb => ?_)) | ((fail_if_success refine GL.fork (b := true) rfl rfl ?_ ?_); (fail_if_success refine GL.fork (b := false) rfl rfl ?_ ?_); first | refine GL.forkP rfl rfl (fun hb => ?_) (fun hb => ?_) | refine GL.forkN rfl rfl (fun hb => ?_) (fun hb => ?_) | refine GL.fork rfl rfl (fun hb => ?_) (fun hb => ?_)) | ((fail_if_success refine GL.forkPick (b := true) rfl ?_ ?_); (fail_if_success refine GL.forkPick (b := false) rfl ?_ ?_); refine GL.forkPick rfl (fun hb => ?_) (fun hb => ?_))))
  all_goals try (refine GQ.fin1 rfl (Rv.tmp rfl) (fun _ s => Sat.sub (by repeat (first | exact SubR.nil | apply SubR.cons 0 rfl | apply SubR.cons 1 rfl | apply SubR.cons 2 rfl | apply SubR.cons 3 rfl | apply SubR.cons 4 rfl | apply SubR.cons 5 rfl | apply SubR.cons 6 rfl | apply SubR.cons 7 rfl | apply SubR.cons 8 rfl | apply SubR.cons 9 rfl | apply SubR.cons 10 rfl | apply SubR.cons 11 rfl | apply SubR.cons 12 rfl | apply SubR.cons 13 rfl | apply SubR.cons 14 rfl | apply SubR.cons 15 rfl)) s) ⟨?_, rfl⟩; unfold nameM wordM; (congr 1; rw [Bool.eq_iff_iff]; first | (simp [*]; done) | (simp [*]; omega) | (simp at *; omega) | (simp_all; omega)))
  obtain ⟨c0, hc0⟩ : ∃ c, s[((0 : Int)).toNat]? = some c := ⟨_, List.getElem?_eq_getElem (by simp; omega)⟩
  have hh : headM s = smallM c0 := by
    cases s with
    | nil => cases hc0
    | cons a r => simp at hc0; subst hc0; unfold headM smallM; rfl
  (repeat (first | refine GK.ro ?_ | (refine GK.box ?_; intro bl) | (refine GK.mkMap ?_; intro bm) | (refine GK.build0 tb ?_; intro bs)))
  refine GL.cons ?_; refine GO.callA (fun hF' hle hH => rsmall_ok c0) (by first | exact Wt.none | exact Wt.some rfl rfl (by first | exact rfl | decide +kernel)) (by kernel_rfl) rfl rfl (by repeat (first | exact SubR.nil | apply SubR.cons 0 rfl | apply SubR.cons 1 rfl | apply SubR.cons 2 rfl | apply SubR.cons 3 rfl | apply SubR.cons 4 rfl | apply SubR.cons 5 rfl | apply SubR.cons 6 rfl | apply SubR.cons 7 rfl | apply SubR.cons 8 rfl | apply SubR.cons 9 rfl | apply SubR.cons 10 rfl | apply SubR.cons 11 rfl | apply SubR.cons 12 rfl | apply SubR.cons 13 rfl | apply SubR.cons 14 rfl | apply SubR.cons 15 rfl)) ?_
  rintro v Γ' ⟨rfl, rfl⟩
  (repeat' (first | refine GK.ro ?_ | (refine GK.box ?_; intro bl) | (refine GK.mkMap ?_; intro bm) | (refine GK.build0 tb ?_; intro bs) | (first | refine G.condP rfl (fun hb => ?_) (fun hb => ?_) | refine G.condN rfl (fun hb => ?_) (fun hb => ?_) | refine G.cond rfl (fun hb => ?_) (fun hb => ?_)) | ((fail_if_success refine GL.fork (b := true) rfl rfl ?_ ?_); (fail_if_success refine GL.fork (b := false) rfl rfl ?_ ?_); first | refine GL.forkP rfl rfl (fun hb => ?_) (fun hb => ?_) | refine GL.forkN rfl rfl (fun hb => ?_) (fun hb => ?_) | refine GL.fork rfl rfl (fun hb => ?_) (fun hb => ?_)) | ((fail_if_success refine GL.forkPick (b := true) rfl ?_ ?_); (fail_if_success refine GL.forkPick (b := false) rfl ?_ ?_); refine GL.forkPick rfl (fun hb => ?_) (fun hb => ?_))))
  · have hn : nameM s = false := by unfold nameM; rw [hh]; simp_all
    rw [hn]
    exact GQ.fin1 rfl (Rv.tmp rfl) (fun _ s => Sat.sub (by repeat (first | exact SubR.nil | apply SubR.cons 0 rfl | apply SubR.cons 1 rfl | apply SubR.cons 2 rfl | apply SubR.cons 3 rfl | apply SubR.cons 4 rfl | apply SubR.cons 5 rfl | apply SubR.cons 6 rfl | apply SubR.cons 7 rfl | apply SubR.cons 8 rfl | apply SubR.cons 9 rfl | apply SubR.cons 10 rfl | apply SubR.cons 11 rfl | apply SubR.cons 12 rfl | apply SubR.cons 13 rfl | apply SubR.cons 14 rfl | apply SubR.cons 15 rfl)) s) ⟨rfl, rfl⟩
  have hh2 : headM s = true := by rw [hh]; simp_all
  refine GK.weak (by repeat (first | exact trivial | refine ⟨rfl, ?_⟩)) (fun _ s => Sat.sub (by repeat (first | exact SubR.nil | apply SubR.cons 0 rfl | apply SubR.cons 1 rfl | apply SubR.cons 2 rfl | apply SubR.cons 3 rfl | apply SubR.cons 4 rfl | apply SubR.cons 5 rfl | apply SubR.cons 6 rfl | apply SubR.cons 7 rfl | apply SubR.cons 8 rfl | apply SubR.cons 9 rfl | apply SubR.cons 10 rfl | apply SubR.cons 11 rfl | apply SubR.cons 12 rfl | apply SubR.cons 13 rfl | apply SubR.cons 14 rfl | apply SubR.cons 15 rfl)) s) (G.loop (fun x : Nat => s.length - x) (fun x => [(0, str s), (3, .int .i64 (x : Int))]) (fun _ => []) (fun x => x ≤ s.length ∧ upTo s (fun c => letM c false) x) (fun i hi => ?_) 0 ⟨Nat.zero_le _, by unfold upTo; intro j c hj; omega⟩)
  obtain ⟨hi, hu⟩ := hi
  replace hi : i ≤ s.length := hi
  (repeat (first | refine GK.ro ?_ | (refine GK.box ?_; intro bl) | (refine GK.mkMap ?_; intro bm) | (refine GK.build0 tb ?_; intro bs)))
  (first | refine G.condP rfl (fun hb => ?_) (fun hb => ?_) | refine G.condN rfl (fun hb => ?_) (fun hb => ?_) | refine G.cond rfl (fun hb => ?_) (fun hb => ?_))
  · obtain ⟨c, hc⟩ : ∃ c, s[(i : Int).toNat]? = some c := ⟨_, List.getElem?_eq_getElem (by omega)⟩
    have hc' : s[i]? = some c := hc
    have good : letM c false = true → nameM s = nameM s ∧ upTo s (fun c => letM c false) (i + 1) := fun h => ⟨rfl, hu.next hc' h⟩
    have bad : letM c false = false → nameM s = false := fun h => by
      unfold nameM wordM; rw [all_get hc' h]; simp
    rw [let_false] at good bad
    (repeat (first | refine GK.ro ?_ | (refine GK.box ?_; intro bl) | (refine GK.mkMap ?_; intro bm) | (refine GK.build0 tb ?_; intro bs)))
    refine GL.cons ?_; refine GO.callA (fun hF' hle hH => rsmall_ok c) (by first | exact Wt.none | exact Wt.some rfl rfl (by first | exact rfl | decide +kernel)) (by kernel_rfl) rfl rfl (by repeat (first | exact SubR.nil | apply SubR.cons 0 rfl | apply SubR.cons 1 rfl | apply SubR.cons 2 rfl | apply SubR.cons 3 rfl | apply SubR.cons 4 rfl | apply SubR.cons 5 rfl | apply SubR.cons 6 rfl | apply SubR.cons 7 rfl | apply SubR.cons 8 rfl | apply SubR.cons 9 rfl | apply SubR.cons 10 rfl | apply SubR.cons 11 rfl | apply SubR.cons 12 rfl | apply SubR.cons 13 rfl | apply SubR.cons 14 rfl | apply SubR.cons 15 rfl)) ?_
    rintro v Γ' ⟨rfl, rfl⟩
    (repeat' (first | refine GK.ro ?_ | (refine GK.box ?_; intro bl) | (refine GK.mkMap ?_; intro bm) | (refine GK.build0 tb ?_; intro bs) | (first | refine G.condP rfl (fun hb => ?_) (fun hb => ?_) | refine G.condN rfl (fun hb => ?_) (fun hb => ?_) | refine G.cond rfl (fun hb => ?_) (fun hb => ?_)) | ((fail_if_success refine GL.fork (b := true) rfl rfl ?_ ?_); (fail_if_success refine GL.fork (b := false) rfl rfl ?_ ?_); first | refine GL.forkP rfl rfl (fun hb => ?_) (fun hb => ?_) | refine GL.forkN rfl rfl (fun hb => ?_) (fun hb => ?_) | refine GL.fork rfl rfl (fun hb => ?_) (fun hb => ?_)) | ((fail_if_success refine GL.forkPick (b := true) rfl ?_ ?_); (fail_if_success refine GL.forkPick (b := false) rfl ?_ ?_); refine GL.forkPick rfl (fun hb => ?_) (fun hb => ?_))))
    refine GL.cons ?_; refine GO.callA (fun hF' hle hH => rdigit_ok c) (by first | exact Wt.none | exact Wt.some rfl rfl (by first | exact rfl | decide +kernel)) (by kernel_rfl) rfl rfl (by repeat (first | exact SubR.nil | apply SubR.cons 0 rfl | apply SubR.cons 1 rfl | apply SubR.cons 2 rfl | apply SubR.cons 3 rfl | apply SubR.cons 4 rfl | apply SubR.cons 5 rfl | apply SubR.cons 6 rfl | apply SubR.cons 7 rfl | apply SubR.cons 8 rfl | apply SubR.cons 9 rfl | apply SubR.cons 10 rfl | apply SubR.cons 11 rfl | apply SubR.cons 12 rfl | apply SubR.cons 13 rfl | apply SubR.cons 14 rfl | apply SubR.cons 15 rfl)) ?_
    rintro v Γ' ⟨rfl, rfl⟩
    (repeat' (first | refine GK.ro ?_ | (refine GK.box ?_; intro bl) | (refine GK.mkMap ?_; intro bm) | (refine GK.build0 tb ?_; intro bs) | (first | refine G.condP rfl (fun hb => ?_) (fun hb => ?_) | refine G.condN rfl (fun hb => ?_) (fun hb => ?_) | refine G.cond rfl (fun hb => ?_) (fun hb => ?_)) | ((fail_if_success refine GL.fork (b := true) rfl rfl ?_ ?_); (fail_if_success refine GL.fork (b := false) rfl rfl ?_ ?_); first | refine GL.forkP rfl rfl (fun hb => ?_) (fun hb => ?_) | refine GL.forkN rfl rfl (fun hb => ?_) (fun hb => ?_) | refine GL.fork rfl rfl (fun hb => ?_) (fun hb => ?_)) | ((fail_if_success refine GL.forkPick (b := true) rfl ?_ ?_); (fail_if_success refine GL.forkPick (b := false) rfl ?_ ?_); refine GL.forkPick rfl (fun hb => ?_) (fun hb => ?_))))
    all_goals first
      | exact GQ.again (i + 1) ⟨by show i + 1 ≤ _; omega, (good (by first | (simp_all; done) | (simp_all; omega))).2⟩ (by show s.length - (i + 1) < s.length - i; omega) (by repeat (first | exact trivial | refine ⟨rfl, ?_⟩)) (fun _ s => Sat.sub (by repeat (first | exact SubR.nil | apply SubR.cons 0 rfl | apply SubR.cons 1 rfl | apply SubR.cons 2 rfl | apply SubR.cons 3 rfl | apply SubR.cons 4 rfl | apply SubR.cons 5 rfl | apply SubR.cons 6 rfl | apply SubR.cons 7 rfl | apply SubR.cons 8 rfl | apply SubR.cons 9 rfl | apply SubR.cons 10 rfl | apply SubR.cons 11 rfl | apply SubR.cons 12 rfl | apply SubR.cons 13 rfl | apply SubR.cons 14 rfl | apply SubR.cons 15 rfl)) s)
      | (rw [bad (by first | (simp_all; done) | (simp_all; omega))]; exact GQ.fin1 rfl (Rv.tmp rfl) (fun _ s => Sat.sub (by repeat (first | exact SubR.nil | apply SubR.cons 0 rfl | apply SubR.cons 1 rfl | apply SubR.cons 2 rfl | apply SubR.cons 3 rfl | apply SubR.cons 4 rfl | apply SubR.cons 5 rfl | apply SubR.cons 6 rfl | apply SubR.cons 7 rfl | apply SubR.cons 8 rfl | apply SubR.cons 9 rfl | apply SubR.cons 10 rfl | apply SubR.cons 11 rfl | apply SubR.cons 12 rfl | apply SubR.cons 13 rfl | apply SubR.cons 14 rfl | apply SubR.cons 15 rfl)) s) ⟨rfl, rfl⟩)
  · have hn : nameM s = true := by
      unfold nameM wordM; rw [hu.all (by omega), hh2]; simp; omega
    rw [hn]
    (repeat (first | refine GK.ro ?_ | (refine GK.box ?_; intro bl) | (refine GK.mkMap ?_; intro bm) | (refine GK.build0 tb ?_; intro bs)))
    exact GQ.fin1 rfl (Rv.tmp rfl) (fun _ s => Sat.sub (by repeat (first | exact SubR.nil | apply SubR.cons 0 rfl | apply SubR.cons 1 rfl | apply SubR.cons 2 rfl | apply SubR.cons 3 rfl | apply SubR.cons 4 rfl | apply SubR.cons 5 rfl | apply SubR.cons 6 rfl | apply SubR.cons 7 rfl | apply SubR.cons 8 rfl | apply SubR.cons 9 rfl | apply SubR.cons 10 rfl | apply SubR.cons 11 rfl | apply SubR.cons 12 rfl | apply SubR.cons 13 rfl | apply SubR.cons 14 rfl | apply SubR.cons 15 rfl)) s) ⟨rfl, rfl⟩
theorem rpart_ok (s : Ky) (hs : s.length < 1000000000) : FnOk Go.Proofs.Tryd.prog 92 [str s] [] hF (fun v Γ => v = .bool (partM s) ∧ Γ = []) := by
  refine FnOk.intro 56 Go.Proofs.Tryd.func92 rfl rfl fun w0 => ?_
  (repeat' (first | refine GK.ro ?_ | (refine GK.box ?_; intro bl) | (refine GK.mkMap ?_; intro bm) | (refine GK.build0 tb ?_; intro bs) | (first | refine G.condP rfl (fun hb => ?_) (fun hb => ?_) | refine G.condN rfl (fun hb => ?_) (fun hb => ?_) | refine G.cond rfl (fun hb => ?_) (fun hb => ?_)) | ((fail_if_success refine GL.fork (b := true) rfl rfl ?_ ?_); (fail_if_success refine GL.fork (b := false) rfl rfl ?_ ?_); first | refine GL.forkP rfl rfl (fun hb => ?_) (fun hb => ?_) | refine GL.forkN rfl rfl (fun hb => ?_) (fun hb => ?_) | refine GL.fork rfl rfl (fun hb => ?_) (fun hb => ?_)) | ((fail_if_success refine GL.forkPick (b := true) rfl ?_ ?_); (fail_if_success refine GL.forkPick (b := false) rfl ?_ ?_); refine GL.forkPick rfl (fun hb => ?_) (fun hb => ?_))))
  all_goals try (refine GQ.fin1 rfl (Rv.tmp rfl) (fun _ s => Sat.sub (by repeat (first | exact SubR.nil | apply SubR.cons 0 rfl | apply SubR.cons 1 rfl | apply SubR.cons 2 rfl | apply SubR.cons 3 rfl | apply SubR.cons 4 rfl | apply SubR.cons 5 rfl | apply SubR.cons 6 rfl | apply SubR.cons 7 rfl | apply SubR.cons 8 rfl | apply SubR.cons 9 rfl | apply SubR.cons 10 rfl | apply SubR.cons 11 rfl | apply SubR.cons 12 rfl | apply SubR.cons 13 rfl | apply SubR.cons 14 rfl | apply SubR.cons 15 rfl)) s) ⟨?_, rfl⟩; unfold partM wordM; (congr 1; rw [Bool.eq_iff_iff]; first | (simp [*]; done) | (simp [*]; omega) | (simp at *; omega) | (simp_all; omega)))
  have hd : (s == [46]) = false ∧ (s == [46, 46]) = false := by simp_all
  refine GK.weak (by repeat (first | exact trivial | refine ⟨rfl, ?_⟩)) (fun _ s => Sat.sub (by repeat (first | exact SubR.nil | apply SubR.cons 0 rfl | apply SubR.cons 1 rfl | apply SubR.cons 2 rfl | apply SubR.cons 3 rfl | apply SubR.cons 4 rfl | apply SubR.cons 5 rfl | apply SubR.cons 6 rfl | apply SubR.cons 7 rfl | apply SubR.cons 8 rfl | apply SubR.cons 9 rfl | apply SubR.cons 10 rfl | apply SubR.cons 11 rfl | apply SubR.cons 12 rfl | apply SubR.cons 13 rfl | apply SubR.cons 14 rfl | apply SubR.cons 15 rfl)) s) (G.loop (fun x : Nat => s.length - x) (fun x => [(0, str s), (3, .int .i64 (x : Int))]) (fun _ => []) (fun x => x ≤ s.length ∧ upTo s (fun c => letM c true) x) (fun i hi => ?_) 0 ⟨Nat.zero_le _, by unfold upTo; intro j c hj; omega⟩)
  obtain ⟨hi, hu⟩ := hi
  replace hi : i ≤ s.length := hi
  (repeat (first | refine GK.ro ?_ | (refine GK.box ?_; intro bl) | (refine GK.mkMap ?_; intro bm) | (refine GK.build0 tb ?_; intro bs)))
  (first | refine G.condP rfl (fun hb => ?_) (fun hb => ?_) | refine G.condN rfl (fun hb => ?_) (fun hb => ?_) | refine G.cond rfl (fun hb => ?_) (fun hb => ?_))
  · obtain ⟨c, hc⟩ : ∃ c, s[(i : Int).toNat]? = some c := ⟨_, List.getElem?_eq_getElem (by omega)⟩
    have hc' : s[i]? = some c := hc
    have good : letM c true = true → upTo s (fun c => letM c true) (i + 1) := fun h => hu.next hc' h
    have bad : letM c true = false → partM s = false := fun h => by
      unfold partM wordM; rw [all_get hc' h]; simp
    rw [let_true] at good bad
    (repeat (first | refine GK.ro ?_ | (refine GK.box ?_; intro bl) | (refine GK.mkMap ?_; intro bm) | (refine GK.build0 tb ?_; intro bs)))
    refine GL.cons ?_; refine GO.callA (fun hF' hle hH => rsmall_ok c) (by first | exact Wt.none | exact Wt.some rfl rfl (by first | exact rfl | decide +kernel)) (by kernel_rfl) rfl rfl (by repeat (first | exact SubR.nil | apply SubR.cons 0 rfl | apply SubR.cons 1 rfl | apply SubR.cons 2 rfl | apply SubR.cons 3 rfl | apply SubR.cons 4 rfl | apply SubR.cons 5 rfl | apply SubR.cons 6 rfl | apply SubR.cons 7 rfl | apply SubR.cons 8 rfl | apply SubR.cons 9 rfl | apply SubR.cons 10 rfl | apply SubR.cons 11 rfl | apply SubR.cons 12 rfl | apply SubR.cons 13 rfl | apply SubR.cons 14 rfl | apply SubR.cons 15 rfl)) ?_
    rintro v Γ' ⟨rfl, rfl⟩
    (repeat' (first | refine GK.ro ?_ | (refine GK.box ?_; intro bl) | (refine GK.mkMap ?_; intro bm) | (refine GK.build0 tb ?_; intro bs) | (first | refine G.condP rfl (fun hb => ?_) (fun hb => ?_) | refine G.condN rfl (fun hb => ?_) (fun hb => ?_) | refine G.cond rfl (fun hb => ?_) (fun hb => ?_)) | ((fail_if_success refine GL.fork (b := true) rfl rfl ?_ ?_); (fail_if_success refine GL.fork (b := false) rfl rfl ?_ ?_); first | refine GL.forkP rfl rfl (fun hb => ?_) (fun hb => ?_) | refine GL.forkN rfl rfl (fun hb => ?_) (fun hb => ?_) | refine GL.fork rfl rfl (fun hb => ?_) (fun hb => ?_)) | ((fail_if_success refine GL.forkPick (b := true) rfl ?_ ?_); (fail_if_success refine GL.forkPick (b := false) rfl ?_ ?_); refine GL.forkPick rfl (fun hb => ?_) (fun hb => ?_))))
    refine GL.cons ?_; refine GO.callA (fun hF' hle hH => rdigit_ok c) (by first | exact Wt.none | exact Wt.some rfl rfl (by first | exact rfl | decide +kernel)) (by kernel_rfl) rfl rfl (by repeat (first | exact SubR.nil | apply SubR.cons 0 rfl | apply SubR.cons 1 rfl | apply SubR.cons 2 rfl | apply SubR.cons 3 rfl | apply SubR.cons 4 rfl | apply SubR.cons 5 rfl | apply SubR.cons 6 rfl | apply SubR.cons 7 rfl | apply SubR.cons 8 rfl | apply SubR.cons 9 rfl | apply SubR.cons 10 rfl | apply SubR.cons 11 rfl | apply SubR.cons 12 rfl | apply SubR.cons 13 rfl | apply SubR.cons 14 rfl | apply SubR.cons 15 rfl)) ?_
    rintro v Γ' ⟨rfl, rfl⟩
    (repeat' (first | refine GK.ro ?_ | (refine GK.box ?_; intro bl) | (refine GK.mkMap ?_; intro bm) | (refine GK.build0 tb ?_; intro bs) | (first | refine G.condP rfl (fun hb => ?_) (fun hb => ?_) | refine G.condN rfl (fun hb => ?_) (fun hb => ?_) | refine G.cond rfl (fun hb => ?_) (fun hb => ?_)) | ((fail_if_success refine GL.fork (b := true) rfl rfl ?_ ?_); (fail_if_success refine GL.fork (b := false) rfl rfl ?_ ?_); first | refine GL.forkP rfl rfl (fun hb => ?_) (fun hb => ?_) | refine GL.forkN rfl rfl (fun hb => ?_) (fun hb => ?_) | refine GL.fork rfl rfl (fun hb => ?_) (fun hb => ?_)) | ((fail_if_success refine GL.forkPick (b := true) rfl ?_ ?_); (fail_if_success refine GL.forkPick (b := false) rfl ?_ ?_); refine GL.forkPick rfl (fun hb => ?_) (fun hb => ?_))))
    all_goals first
      | exact GQ.again (i + 1) ⟨by show i + 1 ≤ _; omega, good (by first | (simp_all; done) | (simp_all; omega))⟩ (by show s.length - (i + 1) < s.length - i; omega) (by repeat (first | exact trivial | refine ⟨rfl, ?_⟩)) (fun _ s => Sat.sub (by repeat (first | exact SubR.nil | apply SubR.cons 0 rfl | apply SubR.cons 1 rfl | apply SubR.cons 2 rfl | apply SubR.cons 3 rfl | apply SubR.cons 4 rfl | apply SubR.cons 5 rfl | apply SubR.cons 6 rfl | apply SubR.cons 7 rfl | apply SubR.cons 8 rfl | apply SubR.cons 9 rfl | apply SubR.cons 10 rfl | apply SubR.cons 11 rfl | apply SubR.cons 12 rfl | apply SubR.cons 13 rfl | apply SubR.cons 14 rfl | apply SubR.cons 15 rfl)) s)
      | (rw [bad (by first | (simp_all; done) | (simp_all; omega))]; exact GQ.fin1 rfl (Rv.tmp rfl) (fun _ s => Sat.sub (by repeat (first | exact SubR.nil | apply SubR.cons 0 rfl | apply SubR.cons 1 rfl | apply SubR.cons 2 rfl | apply SubR.cons 3 rfl | apply SubR.cons 4 rfl | apply SubR.cons 5 rfl | apply SubR.cons 6 rfl | apply SubR.cons 7 rfl | apply SubR.cons 8 rfl | apply SubR.cons 9 rfl | apply SubR.cons 10 rfl | apply SubR.cons 11 rfl | apply SubR.cons 12 rfl | apply SubR.cons 13 rfl | apply SubR.cons 14 rfl | apply SubR.cons 15 rfl)) s) ⟨rfl, rfl⟩)
  · have hn : partM s = true := by
      unfold partM wordM; rw [hu.all (by omega), hd.1, hd.2]; simp; omega
    rw [hn]
    (repeat (first | refine GK.ro ?_ | (refine GK.box ?_; intro bl) | (refine GK.mkMap ?_; intro bm) | (refine GK.build0 tb ?_; intro bs)))
    exact GQ.fin1 rfl (Rv.tmp rfl) (fun _ s => Sat.sub (by repeat (first | exact SubR.nil | apply SubR.cons 0 rfl | apply SubR.cons 1 rfl | apply SubR.cons 2 rfl | apply SubR.cons 3 rfl | apply SubR.cons 4 rfl | apply SubR.cons 5 rfl | apply SubR.cons 6 rfl | apply SubR.cons 7 rfl | apply SubR.cons 8 rfl | apply SubR.cons 9 rfl | apply SubR.cons 10 rfl | apply SubR.cons 11 rfl | apply SubR.cons 12 rfl | apply SubR.cons 13 rfl | apply SubR.cons 14 rfl | apply SubR.cons 15 rfl)) s) ⟨rfl, rfl⟩
end Go.Pa
