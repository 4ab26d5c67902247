/- A map's keys in order: maps.Keys, slices.Sorted. -/
import Derived.Test.YtnealcbmgflaaaaLsT
set_option linter.unusedSimpArgs false
set_option linter.unusedVariables false
namespace Go.Pe
open Go Go.Sl Go.Ls
set_option maxRecDepth 100000
abbrev Es := List (By × Value)
def keys (es : Es) : List By := es.map (·.1)
def kpre (es : Es) (pre : List By) : Prop := ∃ rest, (pre ++ rest).Perm (keys es)
def kfin (es : Es) (all : List By) : Prop := all.Perm (keys es)
theorem keys_perm {a b : Es} (h : a.Perm b) : (keys a).Perm (keys b) := h.map _
theorem keys_len (es : Es) : (keys es).length = es.length := by unfold keys; simp
theorem strs_sing (p : By) : strs [p] = [str p] := rfl
set_option maxRecDepth 100000
set_option maxHeartbeats 4000000
attribute [local irreducible] GK GO Yl Wt Ef Hd GH KH wpListIn Code.wpIn toBody roundQ poolOf rs RS YieldOk IterOk VOk row star exs mp lp Sat pt FnOk Rd bodyPost bodyPostM Lv Ret Exit.then Exit.inBlock Exit.noGoto Int.decLt Int.decLe Int.instDecidableEq
attribute [local irreducible] u8s strs likeTo rng rngAt keys
set_option pp.deepTerms true
set_option pp.maxSteps 1000000
variable {hF H : Hp}
theorem keys1_int {b m : Nat} {es : Es} : IterG Go.Proofs.Try.prog 68 #[] #[.pointer (some ⟨b, 0, none⟩)] (fun x : By => [str x]) (kpre es) (kfin es) [blk b 64 (0, 0) [.map (some m)], mp m es] (fun Γ => Γ = [blk b 64 (0, 0) [.map (some m)], mp m es]) hF := by
  unfold IterG
  intro y J JB hF' hle hy
  unfold YieldG at hy
  show FnOk _ _ [y, .pointer (some ⟨b, 0, none⟩)] _ _ _
  refine FnOk.intro 14 Go.Proofs.Try.func68 rfl rfl fun w0 => ?_
  (repeat (first | refine GK.ro ?_ | (refine GK.box ?_; intro bl) | (refine GK.mkMap ?_; intro bm) | (refine GK.build0 tb ?_; intro bs)))
  refine GL.cons ?_; refine GO.range 2 Wt.o rfl rfl rfl fun r => ?_
  (repeat (first | refine GK.ro ?_ | (refine GK.box ?_; intro bl) | (refine GK.mkMap ?_; intro bm) | (refine GK.build0 tb ?_; intro bs)))
  refine G.loopK (X := List By × Es) [(0, _), (5, _)] (fun _ => []) (fun (_, lf) => lf.length) (fun (pre, lf) => [J pre, blk b 64 (0, 0) [.map (some m)], rng m r es lf]) (fun (pre, lf) => (pre ++ keys lf).Perm (keys es)) ([], es) (List.Perm.refl _) Sub.o (fun _ s => Sat.sub SubR.o s) (fun x hx q hq => ?_)
  obtain ⟨pre, lf⟩ := x
  dsimp only [List.nil_append] at hq hx ⊢
  (repeat (first | refine GK.ro ?_ | (refine GK.box ?_; intro bl) | (refine GK.mkMap ?_; intro bm) | (refine GK.build0 tb ?_; intro bs)))
  refine GL.cons ?_; refine GO.next 2 Wt.o rfl rfl (fun h0 => ?_) (fun j k v hv => ?_)
  · subst h0
    (repeat (first | refine GK.ro ?_ | (refine GK.box ?_; intro bl) | (refine GK.mkMap ?_; intro bm) | (refine GK.build0 tb ?_; intro bs)))
    refine GQ.fin0' rfl (Γ' := [J pre, blk b 64 (0, 0) [.map (some m)], mp m es]) (fun w s => ?_) ⟨_, rfl, .inl ⟨pre, ?_, rfl⟩⟩
    · exact Sl.Sat.sub SubR.o (Sat.rng_mp s)
    · unfold kfin; unfold keys at hx ⊢; simpa using hx
  · have hlp := perm_erase hv
    have hel : (lf.eraseIdx j).length < lf.length := by have := (List.getElem?_eq_some_iff.1 hv).1; rw [List.length_eraseIdx_of_lt this]; omega
    have hpm : ((pre ++ [k]) ++ keys (lf.eraseIdx j)).Perm (keys es) := by
      refine List.Perm.trans ?_ hx
      rw [List.append_assoc]
      exact (((keys_perm hlp).trans (by unfold keys; exact List.Perm.refl _)).append_left pre).symm
    (repeat (first | refine GK.ro ?_ | (refine GK.box ?_; intro bl) | (refine GK.mkMap ?_; intro bm) | (refine GK.build0 tb ?_; intro bs)))
    refine GL.cons ?_; refine GO.yield Wt.o (Yl.entry 0 rfl rfl) ?_
    refine GK.heap (fun w s => Sat.rngAt_rng s) ?_
    (repeat (first | refine GK.ro ?_ | (refine GK.box ?_; intro bl) | (refine GK.mkMap ?_; intro bm) | (refine GK.build0 tb ?_; intro bs)))
    refine GL.cons ?_
    refine GO.callV (Γf := [J pre]) (fun hF3 hle3 _ => hy pre k hF3 ⟨_, hpm⟩ hle3) Wt.o rfl rfl SubR.o ?_
    rintro v2 Γ' (⟨rfl, rfl⟩ | ⟨rfl, rfl⟩)
    · (repeat (first | refine GK.ro ?_ | (refine GK.box ?_; intro bl) | (refine GK.mkMap ?_; intro bm) | (refine GK.build0 tb ?_; intro bs)))
      (refine GQ.againN ((pre ++ [k], lf.eraseIdx j)) ?_ ?_ ?_ ?_; rotate_left; (first | omega | (dsimp only; omega)); exact Sub.o; exact (fun _ s => Sat.sub SubR.o s))
      exact hpm
    · (repeat (first | refine GK.ro ?_ | (refine GK.box ?_; intro bl) | (refine GK.mkMap ?_; intro bm) | (refine GK.build0 tb ?_; intro bs)))
      refine GQ.fin0 rfl (Γ' := [JB (pre ++ [k]), blk b 64 (0, 0) [.map (some m)], mp m es]) (fun w s => ?_) ⟨_, rfl, .inr ⟨_, ⟨_, hpm⟩, rfl⟩⟩
      exact Sl.Sat.sub SubR.o (Sat.rng_mp (r := r) (Sl.Sat.sub (A := [rng m r es (lf.eraseIdx j), JB (pre ++ [k]), blk b 64 (0, 0) [.map (some m)]]) SubR.o s))
theorem keys1_mark {b m : Nat} {es : Es} : IterG Go.Proofs.Try.prog 72 #[] #[.pointer (some ⟨b, 0, none⟩)] (fun x : By => [str x]) (kpre es) (kfin es) [blk b 47 (0, 0) [.map (some m)], mp m es] (fun Γ => Γ = [blk b 47 (0, 0) [.map (some m)], mp m es]) hF := by
  unfold IterG
  intro y J JB hF' hle hy
  unfold YieldG at hy
  show FnOk _ _ [y, .pointer (some ⟨b, 0, none⟩)] _ _ _
  refine FnOk.intro 14 Go.Proofs.Try.func72 rfl rfl fun w0 => ?_
  (repeat (first | refine GK.ro ?_ | (refine GK.box ?_; intro bl) | (refine GK.mkMap ?_; intro bm) | (refine GK.build0 tb ?_; intro bs)))
  refine GL.cons ?_; refine GO.range 2 Wt.o rfl rfl rfl fun r => ?_
  (repeat (first | refine GK.ro ?_ | (refine GK.box ?_; intro bl) | (refine GK.mkMap ?_; intro bm) | (refine GK.build0 tb ?_; intro bs)))
  refine G.loopK (X := List By × Es) [(0, _), (5, _)] (fun _ => []) (fun (_, lf) => lf.length) (fun (pre, lf) => [J pre, blk b 47 (0, 0) [.map (some m)], rng m r es lf]) (fun (pre, lf) => (pre ++ keys lf).Perm (keys es)) ([], es) (List.Perm.refl _) Sub.o (fun _ s => Sat.sub SubR.o s) (fun x hx q hq => ?_)
  obtain ⟨pre, lf⟩ := x
  dsimp only [List.nil_append] at hq hx ⊢
  (repeat (first | refine GK.ro ?_ | (refine GK.box ?_; intro bl) | (refine GK.mkMap ?_; intro bm) | (refine GK.build0 tb ?_; intro bs)))
  refine GL.cons ?_; refine GO.next 2 Wt.o rfl rfl (fun h0 => ?_) (fun j k v hv => ?_)
  · subst h0
    (repeat (first | refine GK.ro ?_ | (refine GK.box ?_; intro bl) | (refine GK.mkMap ?_; intro bm) | (refine GK.build0 tb ?_; intro bs)))
    refine GQ.fin0' rfl (Γ' := [J pre, blk b 47 (0, 0) [.map (some m)], mp m es]) (fun w s => ?_) ⟨_, rfl, .inl ⟨pre, ?_, rfl⟩⟩
    · exact Sl.Sat.sub SubR.o (Sat.rng_mp s)
    · unfold kfin; unfold keys at hx ⊢; simpa using hx
  · have hlp := perm_erase hv
    have hel : (lf.eraseIdx j).length < lf.length := by have := (List.getElem?_eq_some_iff.1 hv).1; rw [List.length_eraseIdx_of_lt this]; omega
    have hpm : ((pre ++ [k]) ++ keys (lf.eraseIdx j)).Perm (keys es) := by
      refine List.Perm.trans ?_ hx
      rw [List.append_assoc]
      exact (((keys_perm hlp).trans (by unfold keys; exact List.Perm.refl _)).append_left pre).symm
    (repeat (first | refine GK.ro ?_ | (refine GK.box ?_; intro bl) | (refine GK.mkMap ?_; intro bm) | (refine GK.build0 tb ?_; intro bs)))
    refine GL.cons ?_; refine GO.yield Wt.o (Yl.entry 0 rfl rfl) ?_
    refine GK.heap (fun w s => Sat.rngAt_rng s) ?_
    (repeat (first | refine GK.ro ?_ | (refine GK.box ?_; intro bl) | (refine GK.mkMap ?_; intro bm) | (refine GK.build0 tb ?_; intro bs)))
    refine GL.cons ?_
    refine GO.callV (Γf := [J pre]) (fun hF3 hle3 _ => hy pre k hF3 ⟨_, hpm⟩ hle3) Wt.o rfl rfl SubR.o ?_
    rintro v2 Γ' (⟨rfl, rfl⟩ | ⟨rfl, rfl⟩)
    · (repeat (first | refine GK.ro ?_ | (refine GK.box ?_; intro bl) | (refine GK.mkMap ?_; intro bm) | (refine GK.build0 tb ?_; intro bs)))
      (refine GQ.againN ((pre ++ [k], lf.eraseIdx j)) ?_ ?_ ?_ ?_; rotate_left; (first | omega | (dsimp only; omega)); exact Sub.o; exact (fun _ s => Sat.sub SubR.o s))
      exact hpm
    · (repeat (first | refine GK.ro ?_ | (refine GK.box ?_; intro bl) | (refine GK.mkMap ?_; intro bm) | (refine GK.build0 tb ?_; intro bs)))
      refine GQ.fin0 rfl (Γ' := [JB (pre ++ [k]), blk b 47 (0, 0) [.map (some m)], mp m es]) (fun w s => ?_) ⟨_, rfl, .inr ⟨_, ⟨_, hpm⟩, rfl⟩⟩
      exact Sl.Sat.sub SubR.o (Sat.rng_mp (r := r) (Sl.Sat.sub (A := [rng m r es (lf.eraseIdx j), JB (pre ++ [k]), blk b 47 (0, 0) [.map (some m)]]) SubR.o s))
theorem keys1_team {b m : Nat} {es : Es} : IterG Go.Proofs.Try.prog 71 #[] #[.pointer (some ⟨b, 0, none⟩)] (fun x : By => [str x]) (kpre es) (kfin es) [blk b 61 (0, 0) [.map (some m)], mp m es] (fun Γ => Γ = [blk b 61 (0, 0) [.map (some m)], mp m es]) hF := by
  unfold IterG
  intro y J JB hF' hle hy
  unfold YieldG at hy
  show FnOk _ _ [y, .pointer (some ⟨b, 0, none⟩)] _ _ _
  refine FnOk.intro 14 Go.Proofs.Try.func71 rfl rfl fun w0 => ?_
  (repeat (first | refine GK.ro ?_ | (refine GK.box ?_; intro bl) | (refine GK.mkMap ?_; intro bm) | (refine GK.build0 tb ?_; intro bs)))
  refine GL.cons ?_; refine GO.range 2 Wt.o rfl rfl rfl fun r => ?_
  (repeat (first | refine GK.ro ?_ | (refine GK.box ?_; intro bl) | (refine GK.mkMap ?_; intro bm) | (refine GK.build0 tb ?_; intro bs)))
  refine G.loopK (X := List By × Es) [(0, _), (5, _)] (fun _ => []) (fun (_, lf) => lf.length) (fun (pre, lf) => [J pre, blk b 61 (0, 0) [.map (some m)], rng m r es lf]) (fun (pre, lf) => (pre ++ keys lf).Perm (keys es)) ([], es) (List.Perm.refl _) Sub.o (fun _ s => Sat.sub SubR.o s) (fun x hx q hq => ?_)
  obtain ⟨pre, lf⟩ := x
  dsimp only [List.nil_append] at hq hx ⊢
  (repeat (first | refine GK.ro ?_ | (refine GK.box ?_; intro bl) | (refine GK.mkMap ?_; intro bm) | (refine GK.build0 tb ?_; intro bs)))
  refine GL.cons ?_; refine GO.next 2 Wt.o rfl rfl (fun h0 => ?_) (fun j k v hv => ?_)
  · subst h0
    (repeat (first | refine GK.ro ?_ | (refine GK.box ?_; intro bl) | (refine GK.mkMap ?_; intro bm) | (refine GK.build0 tb ?_; intro bs)))
    refine GQ.fin0' rfl (Γ' := [J pre, blk b 61 (0, 0) [.map (some m)], mp m es]) (fun w s => ?_) ⟨_, rfl, .inl ⟨pre, ?_, rfl⟩⟩
    · exact Sl.Sat.sub SubR.o (Sat.rng_mp s)
    · unfold kfin; unfold keys at hx ⊢; simpa using hx
  · have hlp := perm_erase hv
    have hel : (lf.eraseIdx j).length < lf.length := by have := (List.getElem?_eq_some_iff.1 hv).1; rw [List.length_eraseIdx_of_lt this]; omega
    have hpm : ((pre ++ [k]) ++ keys (lf.eraseIdx j)).Perm (keys es) := by
      refine List.Perm.trans ?_ hx
      rw [List.append_assoc]
      exact (((keys_perm hlp).trans (by unfold keys; exact List.Perm.refl _)).append_left pre).symm
    (repeat (first | refine GK.ro ?_ | (refine GK.box ?_; intro bl) | (refine GK.mkMap ?_; intro bm) | (refine GK.build0 tb ?_; intro bs)))
    refine GL.cons ?_; refine GO.yield Wt.o (Yl.entry 0 rfl rfl) ?_
    refine GK.heap (fun w s => Sat.rngAt_rng s) ?_
    (repeat (first | refine GK.ro ?_ | (refine GK.box ?_; intro bl) | (refine GK.mkMap ?_; intro bm) | (refine GK.build0 tb ?_; intro bs)))
    refine GL.cons ?_
    refine GO.callV (Γf := [J pre]) (fun hF3 hle3 _ => hy pre k hF3 ⟨_, hpm⟩ hle3) Wt.o rfl rfl SubR.o ?_
    rintro v2 Γ' (⟨rfl, rfl⟩ | ⟨rfl, rfl⟩)
    · (repeat (first | refine GK.ro ?_ | (refine GK.box ?_; intro bl) | (refine GK.mkMap ?_; intro bm) | (refine GK.build0 tb ?_; intro bs)))
      (refine GQ.againN ((pre ++ [k], lf.eraseIdx j)) ?_ ?_ ?_ ?_; rotate_left; (first | omega | (dsimp only; omega)); exact Sub.o; exact (fun _ s => Sat.sub SubR.o s))
      exact hpm
    · (repeat (first | refine GK.ro ?_ | (refine GK.box ?_; intro bl) | (refine GK.mkMap ?_; intro bm) | (refine GK.build0 tb ?_; intro bs)))
      refine GQ.fin0 rfl (Γ' := [JB (pre ++ [k]), blk b 61 (0, 0) [.map (some m)], mp m es]) (fun w s => ?_) ⟨_, rfl, .inr ⟨_, ⟨_, hpm⟩, rfl⟩⟩
      exact Sl.Sat.sub SubR.o (Sat.rng_mp (r := r) (Sl.Sat.sub (A := [rng m r es (lf.eraseIdx j), JB (pre ++ [k]), blk b 61 (0, 0) [.map (some m)]]) SubR.o s))
theorem keys1_org {b m : Nat} {es : Es} : IterG Go.Proofs.Try.prog 67 #[] #[.pointer (some ⟨b, 0, none⟩)] (fun x : By => [str x]) (kpre es) (kfin es) [blk b 48 (0, 0) [.map (some m)], mp m es] (fun Γ => Γ = [blk b 48 (0, 0) [.map (some m)], mp m es]) hF := by
  unfold IterG
  intro y J JB hF' hle hy
  unfold YieldG at hy
  show FnOk _ _ [y, .pointer (some ⟨b, 0, none⟩)] _ _ _
  refine FnOk.intro 14 Go.Proofs.Try.func67 rfl rfl fun w0 => ?_
  (repeat (first | refine GK.ro ?_ | (refine GK.box ?_; intro bl) | (refine GK.mkMap ?_; intro bm) | (refine GK.build0 tb ?_; intro bs)))
  refine GL.cons ?_; refine GO.range 2 Wt.o rfl rfl rfl fun r => ?_
  (repeat (first | refine GK.ro ?_ | (refine GK.box ?_; intro bl) | (refine GK.mkMap ?_; intro bm) | (refine GK.build0 tb ?_; intro bs)))
  refine G.loopK (X := List By × Es) [(0, _), (5, _)] (fun _ => []) (fun (_, lf) => lf.length) (fun (pre, lf) => [J pre, blk b 48 (0, 0) [.map (some m)], rng m r es lf]) (fun (pre, lf) => (pre ++ keys lf).Perm (keys es)) ([], es) (List.Perm.refl _) Sub.o (fun _ s => Sat.sub SubR.o s) (fun x hx q hq => ?_)
  obtain ⟨pre, lf⟩ := x
  dsimp only [List.nil_append] at hq hx ⊢
  (repeat (first | refine GK.ro ?_ | (refine GK.box ?_; intro bl) | (refine GK.mkMap ?_; intro bm) | (refine GK.build0 tb ?_; intro bs)))
  refine GL.cons ?_; refine GO.next 2 Wt.o rfl rfl (fun h0 => ?_) (fun j k v hv => ?_)
  · subst h0
    (repeat (first | refine GK.ro ?_ | (refine GK.box ?_; intro bl) | (refine GK.mkMap ?_; intro bm) | (refine GK.build0 tb ?_; intro bs)))
    refine GQ.fin0' rfl (Γ' := [J pre, blk b 48 (0, 0) [.map (some m)], mp m es]) (fun w s => ?_) ⟨_, rfl, .inl ⟨pre, ?_, rfl⟩⟩
    · exact Sl.Sat.sub SubR.o (Sat.rng_mp s)
    · unfold kfin; unfold keys at hx ⊢; simpa using hx
  · have hlp := perm_erase hv
    have hel : (lf.eraseIdx j).length < lf.length := by have := (List.getElem?_eq_some_iff.1 hv).1; rw [List.length_eraseIdx_of_lt this]; omega
    have hpm : ((pre ++ [k]) ++ keys (lf.eraseIdx j)).Perm (keys es) := by
      refine List.Perm.trans ?_ hx
      rw [List.append_assoc]
      exact (((keys_perm hlp).trans (by unfold keys; exact List.Perm.refl _)).append_left pre).symm
    (repeat (first | refine GK.ro ?_ | (refine GK.box ?_; intro bl) | (refine GK.mkMap ?_; intro bm) | (refine GK.build0 tb ?_; intro bs)))
    refine GL.cons ?_; refine GO.yield Wt.o (Yl.entry 0 rfl rfl) ?_
    refine GK.heap (fun w s => Sat.rngAt_rng s) ?_
    (repeat (first | refine GK.ro ?_ | (refine GK.box ?_; intro bl) | (refine GK.mkMap ?_; intro bm) | (refine GK.build0 tb ?_; intro bs)))
    refine GL.cons ?_
    refine GO.callV (Γf := [J pre]) (fun hF3 hle3 _ => hy pre k hF3 ⟨_, hpm⟩ hle3) Wt.o rfl rfl SubR.o ?_
    rintro v2 Γ' (⟨rfl, rfl⟩ | ⟨rfl, rfl⟩)
    · (repeat (first | refine GK.ro ?_ | (refine GK.box ?_; intro bl) | (refine GK.mkMap ?_; intro bm) | (refine GK.build0 tb ?_; intro bs)))
      (refine GQ.againN ((pre ++ [k], lf.eraseIdx j)) ?_ ?_ ?_ ?_; rotate_left; (first | omega | (dsimp only; omega)); exact Sub.o; exact (fun _ s => Sat.sub SubR.o s))
      exact hpm
    · (repeat (first | refine GK.ro ?_ | (refine GK.box ?_; intro bl) | (refine GK.mkMap ?_; intro bm) | (refine GK.build0 tb ?_; intro bs)))
      refine GQ.fin0 rfl (Γ' := [JB (pre ++ [k]), blk b 48 (0, 0) [.map (some m)], mp m es]) (fun w s => ?_) ⟨_, rfl, .inr ⟨_, ⟨_, hpm⟩, rfl⟩⟩
      exact Sl.Sat.sub SubR.o (Sat.rng_mp (r := r) (Sl.Sat.sub (A := [rng m r es (lf.eraseIdx j), JB (pre ++ [k]), blk b 48 (0, 0) [.map (some m)]]) SubR.o s))
end Go.Pe
