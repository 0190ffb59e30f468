/- Texts that belong together; the first of them: The closed facts of a row, in two parts: what asks the row, and what asks the program alone. -/
import Derived.JoinedOf
import Derived.KernelRfl
import Derived.Test.YtlimhldkkbaohaaGreatDoorRows
import Derived.SevenTiedAt
import Derived.Test.YtlimhldkkbaohaaGreatDoorCards

/- The closed facts of a row, in two parts: what asks the row, and what asks the program alone. -/
section
namespace Go.Mac
open Go

def lightB (P : Program) (f : FuncId) (fn : Func) (s : ChangeSpec) (c : OpenClaim) : Bool :=
  c.wf (OpenSpec.ofChange s) && laidOutB P && mapsRowed P &&
  fn.params.all (P.readableRec ·) && namedTie P c.named s.vars &&
  (c.stops == []) && (P.stops == []) && (c.knobs == []) && (P.stopKnobs == []) &&
  (c.inPlace == P.inPlace f) && (c.unfollowed == P.unfollowed f) && (c.recurses == P.recurses f) && (c.named == P.varsNamed f) &&
  (c.maps == (fn.params.toList ++ s.plain.varTypes P).any (P.mapsRec ·)) && (c.ifaces == (fn.params.toList ++ s.plain.varTypes P).any (P.ifacesRec ·)) && (c.mapsOut == P.mapsAmong fn.resultTypes.toList) &&
  (c.loops == (fn.params.toList ++ s.plain.varTypes P).any (P.loopsFrom ·)) && (c.wideKeys == (fn.params.toList ++ s.plain.varTypes P ++ fn.resultTypes.toList).any (P.wideKeysFrom ·)) &&
  s.vars.all (P.varReadable ·) && fn.resultTypes.all (fun t => P.readableRec t && decide (t < P.types.size)) && (c.ifacesOut == fn.resultTypes.toList.any (P.ifacesRec ·)) && (c.loopsOut == fn.resultTypes.toList.any (P.loopsFrom ·)) && c.shortTexts.isNone && (c.kinds == (if c.domain.isEmpty then [] else fn.params.toList.map fun t => match P.underlying t with | some (.int k) => some k | _ => none)) && (c.pinned == c.pinnedBy) &&
  (c.veiled == (fn.params.toList ++ s.plain.varTypes P ++ fn.resultTypes.toList).any (P.veiledRec ·)) && c.veiledFits P fn.params.toList (fn.params.toList ++ s.plain.varTypes P ++ fn.resultTypes.toList)

def heavyB (P : Program) (c : OpenClaim) : Bool := (c.plainKeys == P.plainKeys) && P.stopsHeard && P.mayEnter && (c.lifted == P.liftsFinal) && (P.make == some c.make)

theorem joined_of {P : Program} {f : FuncId} {fn : Func} {s : ChangeSpec} {c : OpenClaim} (g1 : lightB P f fn s c = true) (g2 : heavyB P c = true) : joinedFacts P f fn s c = true := by
  simp only [lightB, Bool.and_eq_true] at g1
  simp only [heavyB, Bool.and_eq_true] at g2
  obtain ⟨⟨⟨⟨⟨⟨⟨⟨⟨⟨⟨⟨⟨⟨⟨⟨⟨⟨⟨⟨⟨⟨⟨⟨⟨⟨a1, a2⟩, a3⟩, a4⟩, a5⟩, a6⟩, a7⟩, a8⟩, a9⟩, a10⟩, a11⟩, a12⟩, a13⟩, a14⟩, a15⟩, a16⟩, a17⟩, a18⟩, a19⟩, a20⟩, a21⟩, a22⟩, a23⟩, a24⟩, a25⟩, a26⟩, a27⟩ := g1
  obtain ⟨⟨⟨⟨h1, h2⟩, h3⟩, h4⟩, h5⟩ := g2
  simp only [joinedFacts, Bool.and_eq_true]
  exact ⟨⟨⟨⟨⟨⟨⟨⟨⟨⟨⟨⟨⟨⟨⟨⟨⟨⟨⟨⟨⟨⟨⟨⟨⟨⟨⟨⟨⟨⟨⟨a1, a2⟩, a3⟩, a4⟩, a5⟩, a6⟩, a7⟩, a8⟩, a9⟩, a10⟩, a11⟩, a12⟩, a13⟩, a14⟩, a15⟩, a16⟩, a17⟩, a18⟩, a19⟩, a20⟩, a21⟩, a22⟩, h1⟩, a23⟩, h2⟩, h3⟩, h4⟩, h5⟩, a24⟩, a25⟩, a26⟩, a27⟩

end Go.Mac
end

/- What the rows of this seat ask of the program alone. -/
section
namespace Go.Proofs.YtlimhldkkbaohaaGreatDoor
open Go.Mac

theorem heavy : heavyB Tryz.prog Rows.danceRightRow = true := by kernel_rfl

end Go.Proofs.YtlimhldkkbaohaaGreatDoor
end

/- What the cards of this seat ask of the program alone: its looks. -/
section
namespace Go.Proofs.YtlimhldkkbaohaaGreatDoor

theorem looksAll : true = Tryz.prog.looks [] := by kernel_rfl

end Go.Proofs.YtlimhldkkbaohaaGreatDoor
end

/- What the cards of this seat ask of the program alone: its main. -/
section
namespace Go.Proofs.YtlimhldkkbaohaaGreatDoor

theorem mainAll : Tryz.prog.mainIs = some (Rows.danceRightCard.stood.harness.1, Rows.danceRightCard.stood.harness.2.toList) := by kernel_rfl

end Go.Proofs.YtlimhldkkbaohaaGreatDoor
end
