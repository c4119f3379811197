import Derived.Test.YtpdajkbfemcdlaaRows
import Derived.JoinedCond
import Derived.WalkKit
import Derived.ProofKit
set_option linter.unusedVariables false
set_option linter.unusedSimpArgs false
namespace Go.Proofs.Ytpdajkbfemcdlaa.facts
abbrev sp : Char := Char.ofNat 32
theorem words_space (r : List Char) : wordsSigns (sp :: r) = [] :: wordsSigns r := by rw [wordsSigns]
theorem words_sign {c : Char} {r : List Char} {w : List Char} {ws : List (List Char)} (hc : c ≠ sp) (h : wordsSigns r = w :: ws) : wordsSigns (c :: r) = (c :: w) :: ws := by
  rw [wordsSigns]
  · rw [h]
  · exact hc
theorem words_cons : ∀ {w r : List Char}, (∀ c ∈ w, c ≠ sp) → wordsSigns (w ++ sp :: r) = w :: wordsSigns r
  | [], r, _ => words_space r
  | c :: w, r, h => by
    rw [List.cons_append]
    exact words_sign (h c (by simp)) (words_cons fun c hc => h c (by simp [hc]))
def main : String := "eb5ee1fbf38a2e2420bd99536ef3916b239e82b2d1def7c4c6df723db030bc59"
def tail : String := "at gantry/gantkeep5.ClockSure gantry/gantlaw5.MsgSame gantry/gantlaw5.ClockTells gantry/gantlaw5.FallHellos gantry/gantkeep5.LogGoes gantry/gantlaw5.LogTells gantry/gantkeep5.LogCut gantry/gantlaw5.MsgTells gantry/gantkeep5.MsgOwn gantry/gantkeep5.MsgBack gantry/gantkeep5.MsgShort gantry/ganttop.TopLogs gantry/gantlaw5.LinkPlays gantry/gantlaw5.LinkEnds gantry/gantkeep5.NetOnly gantry/gantlaw5.NetPlays gantry/gantkeep5.NetPlain gantry/gantkeep5.LinkAll gantry/gantkeep5.LinkOrder gantry/gantkeep5.RingFound gantry/gantlaw5.RingTells gantry/gantkeep5.RingOrder gantry/gantlaw5.RingSafe gantry/ganttop.TopFalls gantry/gantlaw5.FallTells gantry/gantkeep5.FallEvents gantry/gantlaw5.FallBack gantry/gantlaw5.FallKeeps gantry/gantkeep5.FallSame gantry/gantkeep5.FallTorn gantry/gantkeep5.LeaseFirst gantry/gantkeep5.LeaseEnds gantry/gantkeep5.LeaseLoop gantry/gantkeep5.LeaseApart gantry/gantlaw5.LeasePlays gantry/gantkeep5.RingGives gantry/ganttop.TopWaits gantry/ganttop.TopLeases"
theorem order : Try.prog.initOrder = "harness" ++ " " ++ main ++ " " ++ "cut" ++ " " ++ tail := by kernel_rfl
theorem spaceless (s : String) (h : (s.toList.all fun c => c != sp) = true) : ∀ c ∈ s.toList, c ≠ sp := by
  simpa using h
theorem words : ∃ r, wordsSigns Try.prog.initOrder.toList = "harness".toList :: main.toList :: "cut".toList :: r := by
  refine ⟨wordsSigns tail.toList, ?_⟩
  have e : Try.prog.initOrder.toList = "harness".toList ++ sp :: (main.toList ++ sp :: ("cut".toList ++ sp :: tail.toList)) := by
    rw [order]
    generalize tail = t
    simp only [String.toList_append, List.append_assoc]
    rfl
  rw [e]
  generalize tail.toList = t
  rw [words_cons (spaceless _ (by kernel_rfl)), words_cons (spaceless _ (by kernel_rfl)), words_cons (spaceless _ (by kernel_rfl))]
theorem sum : isSumSigns main.toList = true := by kernel_rfl
theorem behind : ∃ r, behindMainWord (wordsSigns Try.prog.initOrder.toList) = "cut".toList :: r := by
  obtain ⟨r, h⟩ := words
  refine ⟨r, ?_⟩
  rw [h]
  have : ("harness".toList == "harness".toList) = true := by kernel_rfl
  simp only [behindMainWord, sum, this, Bool.true_or, Bool.true_and, if_true]
def cut : List Char := "cut".toList
theorem lifts (r : List (List Char)) : stripLifts liftWords ("cut".toList :: r) = ([], "cut".toList :: r) := by
  have step : ∀ o os, (cut == o.toList) = false → stripLifts (o :: os) (cut :: r) = stripLifts os (cut :: r) := fun o os h => by
    rw [stripLifts, h]; rfl
  show stripLifts liftWords (cut :: r) = ([], cut :: r)
  unfold liftWords
  iterate 15 (rw [step _ _ (by kernel_rfl)])
  rw [stripLifts]
section
variable {P : Program} {r : List (List Char)}
theorem headLifts_of (h : behindMainWord (wordsSigns P.initOrder.toList) = "cut".toList :: r) : P.headLifts = [] := by
  unfold Program.headLifts
  rw [h, lifts]
  have : (some "cut".toList == some "cut".toList) = true := by kernel_rfl
  simp only [List.head?_cons, this, if_true]
theorem liftsFinal_of (h : behindMainWord (wordsSigns P.initOrder.toList) = "cut".toList :: r) : P.liftsFinal = false := by
  unfold Program.liftsFinal
  rw [headLifts_of h, h]
  have : (some "cut".toList == some "carried".toList) = false := by kernel_rfl
  simp only [List.head?_cons, this, Bool.false_and, List.contains_nil, Bool.or_false]
theorem make_of (h : behindMainWord (wordsSigns P.initOrder.toList) = "cut".toList :: r) : P.make = some .cut := by
  unfold Program.make
  rw [h]
  simp only [show ("cut".toList == "gc".toList) = false from by kernel_rfl, show ("cut".toList == "spec".toList) = false from by kernel_rfl, show ("cut".toList == "cut".toList) = true from by kernel_rfl, Bool.or_false, Bool.false_eq_true, Bool.true_or, if_true, if_false]
theorem mayEnter_of (h : behindMainWord (wordsSigns P.initOrder.toList) = "cut".toList :: r) (h1 : P.laysLater = false) (h2 : P.bearsReflect = false) (h3 : P.doorFits [] = true) : P.mayEnter = true := by
  unfold Program.mayEnter
  rw [h]
  simp only [lifts, h1, h2, h3, show ("cut".toList == "gc".toList) = false from by kernel_rfl, show ("cut".toList == "spec".toList) = false from by kernel_rfl, show ("cut".toList == "carried".toList) = false from by kernel_rfl,
    List.head?_cons, show (some "cut".toList == some "cut".toList) = true from by kernel_rfl, Bool.or_false, Bool.false_and, Bool.false_or, Bool.not_false, Bool.or_true, Bool.and_true, List.contains_nil]
theorem mainIs_of {m : List Char} (hs : isSumSigns m = true) (h : wordsSigns P.initOrder.toList = "harness".toList :: m :: "cut".toList :: r) : P.mainIs = some (true, m) := by
  unfold Program.mainIs
  rw [h]
  simp only [hs, show ("harness".toList == "harness".toList) = true from by kernel_rfl, Bool.not_true, Bool.false_eq_true, if_true, if_false]
end
theorem headLifts : Try.prog.headLifts = [] := let ⟨_, h⟩ := behind; headLifts_of h
theorem liftsFinal : Try.prog.liftsFinal = false := let ⟨_, h⟩ := behind; liftsFinal_of h
theorem make : Try.prog.make = some .cut := let ⟨_, h⟩ := behind; make_of h
theorem laysLater : Try.prog.laysLater = false := by kernel_rfl
theorem bearsReflect : Try.prog.bearsReflect = false := by kernel_rfl
theorem doorFits : Try.prog.doorFits [] = true := by kernel_rfl
theorem mayEnter : Try.prog.mayEnter = true := let ⟨_, h⟩ := behind; mayEnter_of h laysLater bearsReflect doorFits
theorem mainIs : Try.prog.mainIs = some (true, main.toList) := let ⟨_, h⟩ := words; mainIs_of sum h
theorem laidOut : laidOutB Try.prog = true := by kernel_rfl
theorem mapsRow : Go.mapsRowed Try.prog = true := by kernel_rfl
theorem stops : Try.prog.stops = [] := by kernel_rfl
theorem stopKnobs : Try.prog.stopKnobs = [] := by kernel_rfl
theorem plainKeys : Try.prog.plainKeys = false := by kernel_rfl
theorem stopsHeard : Try.prog.stopsHeard = true := by kernel_rfl
theorem own : ownKnob Try.prog.godebug = none := by kernel_rfl
theorem wrapper {fn : Func} {w : Bool} {m : String} (h : (Check.packageOf fn.name == "main") = false) (hw : w = false) (hm : m = "") : fn.isWrapper Try.prog w m := by
  unfold Func.isWrapper
  rw [if_neg (by simpa using h)]
  exact ⟨hw, hm⟩
theorem joined_of {P : Program} {f : FuncId} {fn : Func} {s : ChangeSpec} {c : OpenClaim} (g1 : laidOutB P = true) (g2 : Go.mapsRowed P = true) (g3 : P.stops = []) (g4 : P.stopKnobs = []) (g5 : P.plainKeys = false) (g6 : P.stopsHeard = true) (g7 : P.mayEnter = true) (g8 : P.liftsFinal = false) (g9 : P.make = some .cut)
    (h1 : c.inPlace = P.inPlace f) (h2 : c.unfollowed = P.unfollowed f) (h3 : c.recurses = P.recurses f) (h4 : c.named = P.varsNamed f) (hl : c.lifted = false) (hm : c.make = .cut) (hk : c.plainKeys = false)
    (r1 : (c.wf (OpenSpec.ofChange s) && fn.params.all (P.readableRec ·) && namedTie P c.named s.vars && (c.stops == []) && (c.knobs == []) && (c.maps == (fn.params.toList ++ s.plain.varTypes P).any (P.mapsRec ·)) && (c.ifaces == (fn.params.toList ++ s.plain.varTypes P).any (P.ifacesRec ·)) && (c.mapsOut == P.mapsAmong fn.resultTypes.toList)) = true)
    (r2 : ((c.loops == (fn.params.toList ++ s.plain.varTypes P).any (P.loopsFrom ·)) && (c.wideKeys == (fn.params.toList ++ s.plain.varTypes P ++ fn.resultTypes.toList).any (P.wideKeysFrom ·)) && s.vars.all (P.varReadable ·) && fn.resultTypes.all (fun t => P.readableRec t && decide (t < P.types.size)) && (c.ifacesOut == fn.resultTypes.toList.any (P.ifacesRec ·)) && (c.loopsOut == fn.resultTypes.toList.any (P.loopsFrom ·))) = true)
    (r3 : (c.shortTexts.isNone && (c.kinds == (if c.domain.isEmpty then [] else fn.params.toList.map fun t => match P.underlying t with | some (.int k) => some k | _ => none)) && (c.pinned == c.pinnedBy) &&
      (c.veiled == (fn.params.toList ++ s.plain.varTypes P ++ fn.resultTypes.toList).any (P.veiledRec ·)) && c.veiledFits P fn.params.toList (fn.params.toList ++ s.plain.varTypes P ++ fn.resultTypes.toList)) = true) :
    joinedFacts P f fn s c = true := by
  simp only [Bool.and_eq_true] at r1 r2 r3
  obtain ⟨⟨⟨⟨⟨⟨⟨a1, a2⟩, a3⟩, a4⟩, a5⟩, a6⟩, a7⟩, a8⟩ := r1
  obtain ⟨⟨⟨⟨⟨b1, b2⟩, b3⟩, b4⟩, b5⟩, b6⟩ := r2
  obtain ⟨⟨⟨⟨c1, c2⟩, c3⟩, c4⟩, c5⟩ := r3
  unfold joinedFacts
  simp only [g1, g2, g3, g4, g5, g6, g7, g8, g9, h1, h2, h3, h4, hl, hm, hk, a1, a2, a4, a5, a6, a7, a8, b1, b2, b3, b4, b5, b6, c1, c3, c4, c5, beq_self_eq_true, Bool.and_self, Bool.and_true, Bool.true_and]
  rw [h4] at a3
  rw [a3, Bool.true_and]
  exact c2
theorem joined {f : FuncId} {fn : Func} {s : ChangeSpec} {c : OpenClaim} (h1 : c.inPlace = Try.prog.inPlace f) (h2 : c.unfollowed = Try.prog.unfollowed f) (h3 : c.recurses = Try.prog.recurses f) (h4 : c.named = Try.prog.varsNamed f) (hl : c.lifted = false) (hm : c.make = .cut) (hk : c.plainKeys = false)
    (r1 : (c.wf (OpenSpec.ofChange s) && fn.params.all (Try.prog.readableRec ·) && namedTie Try.prog c.named s.vars && (c.stops == []) && (c.knobs == []) && (c.maps == (fn.params.toList ++ s.plain.varTypes Try.prog).any (Try.prog.mapsRec ·)) && (c.ifaces == (fn.params.toList ++ s.plain.varTypes Try.prog).any (Try.prog.ifacesRec ·)) && (c.mapsOut == Try.prog.mapsAmong fn.resultTypes.toList)) = true)
    (r2 : ((c.loops == (fn.params.toList ++ s.plain.varTypes Try.prog).any (Try.prog.loopsFrom ·)) && (c.wideKeys == (fn.params.toList ++ s.plain.varTypes Try.prog ++ fn.resultTypes.toList).any (Try.prog.wideKeysFrom ·)) && s.vars.all (Try.prog.varReadable ·) && fn.resultTypes.all (fun t => Try.prog.readableRec t && decide (t < Try.prog.types.size)) && (c.ifacesOut == fn.resultTypes.toList.any (Try.prog.ifacesRec ·)) && (c.loopsOut == fn.resultTypes.toList.any (Try.prog.loopsFrom ·))) = true)
    (r3 : (c.shortTexts.isNone && (c.kinds == (if c.domain.isEmpty then [] else fn.params.toList.map fun t => match Try.prog.underlying t with | some (.int k) => some k | _ => none)) && (c.pinned == c.pinnedBy) &&
      (c.veiled == (fn.params.toList ++ s.plain.varTypes Try.prog ++ fn.resultTypes.toList).any (Try.prog.veiledRec ·)) && c.veiledFits Try.prog fn.params.toList (fn.params.toList ++ s.plain.varTypes Try.prog ++ fn.resultTypes.toList)) = true) :
    joinedFacts Try.prog f fn s c = true :=
  joined_of laidOut mapsRow stops stopKnobs plainKeys stopsHeard mayEnter liftsFinal make h1 h2 h3 h4 hl hm hk r1 r2 r3
end Go.Proofs.Ytpdajkbfemcdlaa.facts
