/- People: an organisation added. -/
import Derived.Test.YtnealcbmgflaaaaPeE
set_option linter.unusedSimpArgs false
set_option linter.unusedVariables false
namespace Go.Pe
open Go Go.Sl Go.Ls
set_option maxRecDepth 100000
theorem adr_there {os : List Ob} {P : Pp} (hx : os.map plainO = P.orgs) (n : By) : (!(adr os n).isNone) = decide (n ∈ P.orgs.map (·.1)) := by
  rw [← hx, plain_names]
  unfold adr
  cases h : findB os n with
  | none => have := findB_none.1 h; simp only [Option.map_none, Option.isNone_none, Bool.not_true]; exact (decide_eq_false this).symm
  | some x =>
    have : n ∈ os.map (·.1) := by
      refine Classical.byContradiction fun hm => ?_
      rw [findB_none.2 hm] at h; cases h
    rw [decide_eq_true this]; rfl
theorem enc_newO {os : List Ob} {n : By} {e : Nat} {o : Og} (h : n ∉ os.map (·.1)) : mset (encO os) n (.pointer (some ⟨e, 0, none⟩)) = encO (os ++ [(n, e, o)]) := by
  have hm : mfind (encO os) n = none := by
    have := encO_get os n
    rw [findB_none.2 h] at this
    unfold mget at this
    cases hf : mfind (encO os) n with
    | none => rfl
    | some p => rw [hf] at this; cases this
  rw [mset_new _ _ _ hm]; unfold encO; simp
theorem map_lit (owner : By) : mset ([] : Es) owner (.int .i64 2) = encV [(owner, 2)] := rfl
set_option maxRecDepth 100000
set_option maxHeartbeats 4000000
attribute [local irreducible] GK GO Yl Wt Ef Hd GH KH wpListIn Code.wpIn toBody roundQ poolOf rs RS YieldOk IterOk VOk row star exs mp lp Sat pt FnOk Rd bodyPost bodyPostM Lv Ret Exit.then Exit.inBlock Exit.noGoto Int.decLt Int.decLe Int.instDecidableEq
attribute [local irreducible] u8s strs likeTo rng rngAt keys encU encT encV encO inT freshM unitV Pa.nameM orgErr
set_option pp.deepTerms true
set_option pp.maxSteps 1000000
variable {hF H : Hp}
theorem addOrg_ok {b : Nat} {P : Pp} {n owner : By} (hs : n.length < 9223372036854775807) : FnOk Go.Proofs.Try.prog 25 [.pointer (some ⟨b, 0, none⟩), str n, str owner] [people b P] hF (fun v Γ => v = .int .i64 (addOrgM P n owner).1 ∧ Γ = [people b (addOrgM P n owner).2]) := by
  refine FnOk.intro 51 Go.Proofs.Try.func25 rfl rfl fun w0 => ?_
  refine GK.opens 0 rfl fun x hx => ?_
  obtain ⟨mu, mo, os⟩ := x
  have hxl : os.length = P.orgs.length := by have := congrArg List.length hx; simpa using this
  (repeat (first | refine GK.ro ?_ | (refine GK.box ?_; intro bl) | (refine GK.mkMap ?_; intro bm) | (refine GK.build0 tb ?_; intro bs)))
  refine GL.cons ?_; refine GO.callA (fun hF' hle hH => none_ok) Wt.o (by kernel_rfl) rfl rfl SubR.o ?_
  rintro v Γ' ⟨rfl, rfl⟩
  (repeat (first | refine GK.ro ?_ | (refine GK.box ?_; intro bl) | (refine GK.mkMap ?_; intro bm) | (refine GK.build0 tb ?_; intro bs)))
  refine G.draw [] [pblk b mu mo, mp mo (encO os)] (by kernel_rfl) ?_
  ((first | refine GH.to 0 ?_ | refine GH.tos 0 ?_); (first | refine GH.to 1 ?_ | refine GH.tos 1 ?_); (first | refine GH.to 2 ?_ | refine GH.tos 2 ?_); (first | refine GH.to 3 ?_ | refine GH.tos 3 ?_); (first | refine GH.to 4 ?_ | refine GH.tos 4 ?_); (first | refine GH.to 5 ?_ | refine GH.tos 5 ?_))
  refine GH.take 6 rfl (by kernel_rfl) Wt.o (fun _ s => Sat.sub SubR.o s) (Yl.look1 1 (KeyT.str rfl) rfl rfl rfl rfl rfl (encO_getD os n)) ?_
  ((first | refine GH.to 7 ?_ | refine GH.tos 7 ?_); (first | refine GH.to 8 ?_ | refine GH.tos 8 ?_); (first | refine GH.to 9 ?_ | refine GH.tos 9 ?_); (first | refine GH.to 10 ?_ | refine GH.tos 10 ?_); (first | refine GH.to 11 ?_ | refine GH.tos 11 ?_))
  refine GH.take 12 rfl (by kernel_rfl) Wt.o (fun _ s => Sat.sub SubR.o s) (Yl.len_map 1 rfl rfl rfl) ?_
  refine GH.step 13 rfl (by kernel_rfl) ?_
  refine GO.callA (fun hF' hle hH => fresh_ok (name := n) hs) Wt.o (by kernel_rfl) rfl rfl SubR.o ?_
  rintro v Γ' ⟨rfl, rfl⟩
  refine GH.keep (fun _ s => Sat.sub SubR.o s) ?_
  ((first | refine GH.to 14 ?_ | refine GH.tos 14 ?_))
  refine GH.fin (by kernel_rfl) ?_
  rw [encO_len, adr_there hx, hxl]
  have herr : orgErr P n owner = if (freshM n (decide (n ∈ P.orgs.map (·.1))) P.orgs.length 8 = 0 ∨ freshM n (decide (n ∈ P.orgs.map (·.1))) P.orgs.length 8 = 3) ∧ owner ∉ P.users then 111 else freshM n (decide (n ∈ P.orgs.map (·.1))) P.orgs.length 8 := by unfold orgErr; rfl
  have hfo := fun h => freshM_ok (name := n) (t := decide (n ∈ P.orgs.map (·.1))) (n := P.orgs.length) (m := 8) h
  generalize freshM n (decide (n ∈ P.orgs.map (·.1))) P.orgs.length 8 = e0 at herr hfo ⊢
  refine GK.weak (fr' := [(0, .pointer (some ⟨b, 0, none⟩)), (1, str n), (2, str owner), (7, .int .i64 e0)]) (Γ' := peopleL b P.users (mu, mo, os)) Sub.o (fun _ s => Sat.sub SubR.o s) ?_
  unfold peopleL
  have back : ∀ e, orgErr P n owner = e → e ≠ 0 → addOrgM P n owner = (e, P) := fun e h1 h2 => by unfold addOrgM; rw [h1, if_neg h2]
  by_cases h0 : e0 = 0
  · subst h0
    by_cases ho : owner ∈ P.users
    · have he : orgErr P n owner = 0 := by rw [herr, if_neg (fun h => h.2 ho)]
      have hm : addOrgM P n owner = (0, ⟨P.users, P.orgs ++ [(n, ⟨[], [(owner, 2)]⟩)]⟩) := by unfold addOrgM; rw [he, if_pos rfl]
      have hnew : n ∉ os.map (·.1) := by
        have := (hfo rfl).1
        rw [← plain_names, show os.map plainO = P.orgs from hx]; simpa using this
      rw [hm]
      (repeat (first | refine GK.ro ?_ | (refine GK.box ?_; intro bl) | (refine GK.mkMap ?_; intro bm) | (refine GK.build0 tb ?_; intro bs)))
      refine GL.cons ?_; refine GO.callA (fun hF' hle hH => user_ok (us := P.users) (u := owner)) Wt.o (by kernel_rfl) rfl rfl SubR.o ?_
      rw [decide_eq_true ho]
      rintro v Γ' ⟨rfl, rfl⟩
      (repeat (first | refine GK.ro ?_ | (refine GK.box ?_; intro bl) | (refine GK.mkMap ?_; intro bm) | (refine GK.build0 tb ?_; intro bs)))
      rename_i bm2
      refine GK.heap (Γ' := [mp bm ([] : Es), mp bm2 ([] : Es), pblk b mu mo, mp mu (encU P.users), mp mo (encO os), star (os.map obC)]) (fun w s => ?_) ?_
      · exact Sl.Sat.perm (.swap _ _ _) (Sat.mp_new (α := By) (Sl.Sat.perm (.swap _ _ _) (Sat.mp_new (α := By) s)))
      refine GL.cons ?_; refine GO.insert 0 Wt.o (KeyT.str rfl) rfl rfl rfl rfl rfl ?_
      rw [map_lit]
      (repeat (first | refine GK.ro ?_ | (refine GK.box ?_; intro bl) | (refine GK.mkMap ?_; intro bm) | (refine GK.build0 tb ?_; intro bs)))
      refine GL.cons ?_; refine GO.mapUpdate 5 Wt.o (KeyT.str rfl) rfl rfl rfl rfl rfl ?_
      rw [enc_newO (o := ⟨[], [(owner, 2)]⟩) hnew]
      (repeat (first | refine GK.ro ?_ | (refine GK.box ?_; intro bl) | (refine GK.mkMap ?_; intro bm) | (refine GK.build0 tb ?_; intro bs)))
      refine GQ.fin1 rfl (Rv.tmp rfl) (Γ' := [people b ⟨P.users, P.orgs ++ [(n, ⟨[], [(owner, 2)]⟩)]⟩]) (fun w s => ?_) ⟨rfl, rfl⟩
      refine Sl.Sat.shut (mu, mo, os ++ [(n, bl, ⟨[], [(owner, 2)]⟩)]) (by show (os ++ [_]).map plainO = _; rw [List.map_append, show os.map plainO = P.orgs from hx]; rfl) ?_
      have s2 : Sat [oblk bl bm2 bm, mp bm2 ([] : Es), mp bm (encV [(owner, 2)]), star (os.map obC), pblk b mu mo, mp mu (encU P.users), mp mo (encO (os ++ [(n, bl, ⟨[], [(owner, 2)]⟩)]))] hF w := Sl.Sat.sub SubR.o s
      have s3 : Sat (orgL bl [(owner, 2)] (bm2, bm, []) ++ [star (os.map obC), pblk b mu mo, mp mu (encU P.users), mp mo (encO (os ++ [(n, bl, ⟨[], [(owner, 2)]⟩)]))]) hF w := by
        have s4 := Sl.Sat.star_nil s2
        have e1 : encT [] = [] := by unfold encT; rfl
        show Sat [oblk bl bm2 bm, mp bm2 (encT []), star [], mp bm (encV [(owner, 2)]), star (os.map obC), pblk b mu mo, mp mu (encU P.users), mp mo (encO (os ++ [(n, bl, ⟨[], [(owner, 2)]⟩)]))] hF w
        rw [e1]
        exact Sl.Sat.sub SubR.o s4
      have s5 := Sat.pushM (f := obC) (y := (n, bl, ⟨[], [(owner, 2)]⟩)) (Sl.Sat.shut (φ := fun x : Nat × Nat × List Tm => x.2.2.map strip = []) (Λ := orgL bl [(owner, 2)]) (bm2, bm, []) rfl s3)
      exact Sl.Sat.sub (A := [pblk b mu mo, mp mu (encU P.users), mp mo (encO (os ++ [(n, bl, ⟨[], [(owner, 2)]⟩)])), star ((os ++ [(n, bl, (⟨[], [(owner, 2)]⟩ : Og))]).map obC)]) SubR.o s5
    · have he : orgErr P n owner = 111 := by rw [herr, if_pos ⟨.inl rfl, ho⟩]
      rw [back 111 he (by omega)]
      (repeat (first | refine GK.ro ?_ | (refine GK.box ?_; intro bl) | (refine GK.mkMap ?_; intro bm) | (refine GK.build0 tb ?_; intro bs)))
      refine GL.cons ?_; refine GO.callA (fun hF' hle hH => user_ok (us := P.users) (u := owner)) Wt.o (by kernel_rfl) rfl rfl SubR.o ?_
      rw [decide_eq_false ho]
      rintro v Γ' ⟨rfl, rfl⟩
      (repeat (first | refine GK.ro ?_ | (refine GK.box ?_; intro bl) | (refine GK.mkMap ?_; intro bm) | (refine GK.build0 tb ?_; intro bs)))
      exact GQ.fin1 rfl (Rv.tmp rfl) (fun w s => Sl.Sat.shut (mu, mo, os) hx (Sl.Sat.sub SubR.o s)) ⟨rfl, rfl⟩
  by_cases h3 : e0 = 3
  · subst h3
    by_cases ho : owner ∈ P.users
    · have he : orgErr P n owner = 3 := by rw [herr, if_neg (fun h => h.2 ho)]
      rw [back 3 he (by omega)]
      (repeat (first | refine GK.ro ?_ | (refine GK.box ?_; intro bl) | (refine GK.mkMap ?_; intro bm) | (refine GK.build0 tb ?_; intro bs)))
      refine GL.cons ?_; refine GO.callA (fun hF' hle hH => user_ok (us := P.users) (u := owner)) Wt.o (by kernel_rfl) rfl rfl SubR.o ?_
      rw [decide_eq_true ho]
      rintro v Γ' ⟨rfl, rfl⟩
      (repeat (first | refine GK.ro ?_ | (refine GK.box ?_; intro bl) | (refine GK.mkMap ?_; intro bm) | (refine GK.build0 tb ?_; intro bs)))
      exact GQ.fin1 rfl (Rv.tmp rfl) (fun w s => Sl.Sat.shut (mu, mo, os) hx (Sl.Sat.sub SubR.o s)) ⟨rfl, rfl⟩
    · have he : orgErr P n owner = 111 := by rw [herr, if_pos ⟨.inr rfl, ho⟩]
      rw [back 111 he (by omega)]
      (repeat (first | refine GK.ro ?_ | (refine GK.box ?_; intro bl) | (refine GK.mkMap ?_; intro bm) | (refine GK.build0 tb ?_; intro bs)))
      refine GL.cons ?_; refine GO.callA (fun hF' hle hH => user_ok (us := P.users) (u := owner)) Wt.o (by kernel_rfl) rfl rfl SubR.o ?_
      rw [decide_eq_false ho]
      rintro v Γ' ⟨rfl, rfl⟩
      (repeat (first | refine GK.ro ?_ | (refine GK.box ?_; intro bl) | (refine GK.mkMap ?_; intro bm) | (refine GK.build0 tb ?_; intro bs)))
      exact GQ.fin1 rfl (Rv.tmp rfl) (fun w s => Sl.Sat.shut (mu, mo, os) hx (Sl.Sat.sub SubR.o s)) ⟨rfl, rfl⟩
  · have he : orgErr P n owner = e0 := by rw [herr, if_neg (fun h => by omega)]
    rw [back e0 he h0]
    (repeat (first | refine GK.ro ?_ | (refine GK.box ?_; intro bl) | (refine GK.mkMap ?_; intro bm) | (refine GK.build0 tb ?_; intro bs)))
    exact GQ.fin1 rfl (Rv.tmp rfl) (fun w s => Sl.Sat.shut (mu, mo, os) hx (Sl.Sat.sub SubR.o s)) ⟨rfl, rfl⟩
end Go.Pe
