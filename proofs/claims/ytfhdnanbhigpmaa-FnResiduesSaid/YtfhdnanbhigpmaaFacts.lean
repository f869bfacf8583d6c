/- The closed facts of a row, each a theorem of its own: so that no single declaration needs much memory. -/
import Derived.Test.YtfhdnanbhigpmaaRows
import Derived.ProofKit
namespace Go.Proofs.Ytfhdnanbhigpmaa
theorem facts_of {P : Program} {f : FuncId} {fn : Func} {s : ChangeSpec} {c : OpenClaim}
    (k_wf : c.wf (OpenSpec.ofChange s) = true)
    (k_laid : laidOutB P = true)
    (k_rowed : mapsRowed P = true)
    (k_pars : fn.params.all (P.readableRec ·) = true)
    (k_tie : namedTie P c.named s.vars = true)
    (k_st : (c.stops == []) = true)
    (k_pst : (P.stops == []) = true)
    (k_kn : (c.knobs == []) = true)
    (k_pkn : (P.stopKnobs == []) = true)
    (k_inp : (c.inPlace == P.inPlace f) = true)
    (k_unf : (c.unfollowed == P.unfollowed f) = true)
    (k_rec : (c.recurses == P.recurses f) = true)
    (k_nam : (c.named == P.varsNamed f) = true)
    (k_mp : (c.maps == (fn.params.toList ++ s.plain.varTypes P).any (P.mapsRec ·)) = true)
    (k_ifc : (c.ifaces == (fn.params.toList ++ s.plain.varTypes P).any (P.ifacesRec ·)) = true)
    (k_mo : (c.mapsOut == P.mapsAmong fn.resultTypes.toList) = true)
    (k_lo : (c.loops == (fn.params.toList ++ s.plain.varTypes P).any (P.loopsFrom ·)) = true)
    (k_wk : (c.wideKeys == (fn.params.toList ++ s.plain.varTypes P ++ fn.resultTypes.toList).any (P.wideKeysFrom ·)) = true)
    (k_vs : s.vars.all (P.varReadable ·) = true)
    (k_res : fn.resultTypes.all (fun t => P.readableRec t && decide (t < P.types.size)) = true)
    (k_io : (c.ifacesOut == fn.resultTypes.toList.any (P.ifacesRec ·)) = true)
    (k_loo : (c.loopsOut == fn.resultTypes.toList.any (P.loopsFrom ·)) = true)
    (k_pk : (c.plainKeys == P.plainKeys) = true)
    (k_sh : c.shortTexts.isNone = true)
    (k_hd : P.stopsHeard = true)
    (k_me : P.mayEnter = true)
    (k_li : (c.lifted == P.liftsFinal) = true)
    (k_mk : (P.make == some c.make) = true)
    (k_kd : (c.kinds == (if c.domain.isEmpty then [] else fn.params.toList.map fun t => match P.underlying t with | some (.int k) => some k | _ => none)) = true)
    (k_pi : (c.pinned == c.pinnedBy) = true)
    (k_ve : (c.veiled == (fn.params.toList ++ s.plain.varTypes P ++ fn.resultTypes.toList).any (P.veiledRec ·)) = true)
    (k_vf : c.veiledFits P fn.params.toList (fn.params.toList ++ s.plain.varTypes P ++ fn.resultTypes.toList) = true)
    : joinedFacts P f fn s c = true := by
  unfold joinedFacts
  simp only [k_wf, k_laid, k_rowed, k_pars, k_tie, k_st, k_pst, k_kn, k_pkn, k_inp, k_unf, k_rec, k_nam, k_mp, k_ifc, k_mo, k_lo, k_wk, k_vs, k_res, k_io, k_loo, k_pk, k_sh, k_hd, k_me, k_li, k_mk, k_pi, k_ve, k_vf, Bool.true_and, Bool.and_true]
  exact k_kd
/-! The head's words, as a list of signs: 'toList' of a long text is dear to the kernel; 'toList_ofList' is not. -/
def initNums : List Nat := [104, 97, 114, 110, 101, 115, 115, 32, 50, 100, 57, 55, 51, 50, 51, 100, 50, 51, 52, 51, 50, 51, 51, 54, 55, 52, 102, 99, 48, 55, 55, 101, 98, 55, 101, 102, 54, 102, 51, 97, 53, 57, 49, 48, 50, 55, 57, 52, 50, 54, 50, 53, 100, 57, 51, 99, 57, 57, 56, 97, 54, 57, 102, 100, 55, 49, 101, 49, 98, 51, 57, 54, 32, 99, 117, 116, 32, 97, 116, 32, 108, 111, 111, 112, 46, 101, 120, 97, 109, 112, 108, 101, 47, 103, 48, 48, 56, 53, 53, 47, 108, 97, 119, 115, 46, 70, 110, 82, 101, 115, 105, 100, 117, 101, 115, 32, 108, 111, 111, 112, 46, 101, 120, 97, 109, 112, 108, 101, 47, 103, 48, 48, 56, 53, 53, 47, 108, 97, 119, 115, 46, 70, 110, 69, 120, 97, 99, 116, 83, 116, 97, 114, 116, 70, 105, 108, 108, 32, 108, 111, 111, 112, 46, 101, 120, 97, 109, 112, 108, 101, 47, 103, 48, 48, 56, 53, 53, 47, 108, 97, 119, 115, 46, 70, 110, 70, 105, 108, 108, 67, 114, 97, 115, 104, 101, 115, 32, 108, 111, 111, 112, 46, 101, 120, 97, 109, 112, 108, 101, 47, 103, 48, 48, 56, 53, 53, 47, 108, 97, 119, 115, 46, 70, 110, 70, 105, 108, 108, 80, 114, 101, 102, 105, 120, 32, 108, 111, 111, 112, 46, 101, 120, 97, 109, 112, 108, 101, 47, 103, 48, 48, 56, 53, 53, 47, 108, 97, 119, 115, 46, 70, 110, 69, 120, 97, 99, 116, 82, 101, 99, 111, 118, 101, 114, 68, 105, 115, 116, 97, 110, 99, 101, 115, 32, 108, 111, 111, 112, 46, 101, 120, 97, 109, 112, 108, 101, 47, 103, 48, 48, 56, 53, 53, 47, 108, 97, 119, 115, 46, 70, 110, 69, 120, 97, 99, 116, 82, 101, 99, 111, 118, 101, 114, 70, 105, 108, 108, 32, 108, 111, 111, 112, 46, 101, 120, 97, 109, 112, 108, 101, 47, 103, 48, 48, 56, 53, 53, 47, 108, 97, 119, 115, 46, 70, 110, 69, 120, 97, 99, 116, 73, 115, 86, 97, 108, 105, 100, 70, 105, 108, 108]
theorem initIs : Try.prog.initOrder = String.ofList (initNums.map Char.ofNat) := by kernel_rfl
theorem initSigns : Try.prog.initOrder.toList = initNums.map Char.ofNat := by rw [initIs, String.toList_ofList]
theorem head_cons {l : List (List Char)} (h : l.head? = some "cut".toList) : ∃ rest, l = "cut".toList :: rest := by
  cases l with
  | nil => simp at h
  | cons c rest => exact ⟨rest, by simpa using h⟩
theorem strip_cut (rest : List (List Char)) : stripLifts liftWords ("cut".toList :: rest) = ([], "cut".toList :: rest) := by simp [stripLifts, liftWords]
theorem headIs : (behindMainWord (wordsSigns (initNums.map Char.ofNat))).head? = some "cut".toList := by kernel_rfl
theorem finals_of {P : Program} {l : List Char} (h1 : P.initOrder.toList = l) (h2 : (behindMainWord (wordsSigns l)).head? = some "cut".toList) : P.liftsFinal = false := by
  obtain ⟨rest, h⟩ := head_cons h2
  unfold Program.liftsFinal Program.headLifts
  rw [h1, h]
  simp only [strip_cut]
  simp
theorem fact_finals : Try.prog.liftsFinal = false := finals_of initSigns headIs
theorem make_of {P : Program} {l : List Char} (h1 : P.initOrder.toList = l) (h2 : (behindMainWord (wordsSigns l)).head? = some "cut".toList) : P.make = some .cut := by
  obtain ⟨rest, h⟩ := head_cons h2
  unfold Program.make
  rw [h1, h]
  simp
theorem fact_make : Try.prog.make = some .cut := make_of initSigns headIs
theorem fact_laid : laidOutB Try.prog = true := by kernel_rfl
theorem fact_rowed : mapsRowed Try.prog = true := by kernel_rfl
theorem fact_pst : (Try.prog.stops == []) = true := by kernel_rfl
theorem fact_pkn : (Try.prog.stopKnobs == []) = true := by kernel_rfl
theorem fact_hd : Try.prog.stopsHeard = true := by kernel_rfl
theorem noLater : Try.prog.laysLater = false := by kernel_rfl
theorem noReflect : Try.prog.bearsReflect = false := by kernel_rfl
theorem doorOk : Try.prog.doorFits [] = true := by kernel_rfl
theorem mayEnter_of {P : Program} {l : List Char} (h1 : P.initOrder.toList = l) (h2 : (behindMainWord (wordsSigns l)).head? = some "cut".toList) (h3 : P.laysLater = false) (h4 : P.bearsReflect = false)
    (h5 : P.doorFits [] = true) : P.mayEnter = true := by
  obtain ⟨rest, h⟩ := head_cons h2
  unfold Program.mayEnter
  rw [h1, h]
  simp only [strip_cut, h3, h4, h5]
  simp
theorem fact_me : Try.prog.mayEnter = true := mayEnter_of initSigns headIs noLater noReflect doorOk
end Go.Proofs.Ytfhdnanbhigpmaa
