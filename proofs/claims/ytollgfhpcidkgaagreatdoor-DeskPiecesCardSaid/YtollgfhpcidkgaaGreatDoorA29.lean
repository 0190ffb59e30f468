/- Texts that belong together; the first of them:  -/
import Derived.Test.YtollgfhpcidkgaaGreatDoorA28
import Derived.Test.YtollgfhpcidkgaaGreatDoorA22
import Derived.Test.YtollgfhpcidkgaaGreatDoorA3
import Derived.Test.YtollgfhpcidkgaaGreatDoorRows
import Derived.ChangeSlices
import Derived.SizedLaws
import Derived.JoinedOf
import Derived.KernelRfl
import Derived.SevenTiedAt
import Derived.Test.YtollgfhpcidkgaaGreatDoorCards
import Derived.Test.YtollgfhpcidkgaaGreatDoorA4
import Derived.ChangeSame
import Derived.ChangeVars
import Derived.LaidLaws
import Derived.LaidHandle
import Derived.Lay
import Derived.Lib.LaidTab
import Derived.Stop.Joined
import Derived.Stop.LaidErr
import Derived.Test.YtollgfhpcidkgaaGreatDoorA13
import Derived.Conc.Holds
import Derived.Leaving

section
open Go Go.Proofs Go.Mac
set_option maxRecDepth 100000
namespace Go.Mac
section
def deskD:Nat→DZ
 | 0=>dz0
 | 1=>dzA
 | 2=>dzB
 | 3=>dzB
 | 4=>dzC
 | 5=>dzD
 | 6=>dzD
 | _=>dzD

def deskS0:Nat→List UInt8
 | 0=>[98,97,114,114,105,101,114,32,50]
 | 1=>[102,105,110,105,115,104,32,51,54,32,116,114,117,101,32,102,97,108,115,101]
 | 2=>[106,117,100,103,101,32,49,32,49]
 | 3=>[112,104,97,115,101,114,32,49]
 | 4=>[102,105,110,105,115,104,32,52,54,32,116,114,117,101,32,102,97,108,115,101]
 | 5=>[115,116,97,116,101,32,116,114,117,101,32,49,32,48,32,48]
 | 6=>[101,114,114,111,114,32,51]
 | _=>[]

theorem dw0:wordsF [98,97,114,114,105,101,114,32,115,116,97,116,105,99,32,50,32,49]=[[98,97,114,114,105,101,114],[115,116,97,116,105,99],[50],[49]]:=(words_join (ps:=[[98,97,114,114,105,101,114],[115,116,97,116,105,99],[50],[49]]) (by decide) (by decide))
theorem dw1:wordsF [102,105,110,105,115,104]=[[102,105,110,105,115,104]]:=(words_join (ps:=[[102,105,110,105,115,104]]) (by decide) (by decide))
theorem dw2:wordsF [106,117,100,103,101]=[[106,117,100,103,101]]:=(words_join (ps:=[[106,117,100,103,101]]) (by decide) (by decide))
theorem dw3:wordsF [112,104,97,115,101,114,32,49,32,112,97,115,115,44,108,101,97,118,101]=[[112,104,97,115,101,114],[49],[112,97,115,115,44,108,101,97,118,101]]:=(words_join (ps:=[[112,104,97,115,101,114],[49],[112,97,115,115,44,108,101,97,118,101]]) (by decide) (by decide))
theorem dw4:wordsF [102,105,110,105,115,104]=[[102,105,110,105,115,104]]:=(words_join (ps:=[[102,105,110,105,115,104]]) (by decide) (by decide))
theorem dw5:wordsF [115,116,97,116,101]=[[115,116,97,116,101]]:=(words_join (ps:=[[115,116,97,116,101]]) (by decide) (by decide))
theorem dw6:wordsF [120]=[[120]]:=(words_join (ps:=[[120]]) (by decide) (by decide))

theorem err_3:errText (.no 3)=[101,114,114,111,114,32,51]:=by decide +kernel

theorem dA (s:List UInt8) (hs:s.length≤1000000000) (hw:wordsF s=[[98,97,114,114,105,101,114],[115,116,97,116,105,99],[50],[49]]):LineX dz0 s (dzA,[98,97,114,114,105,101,114,32,50]):=by
 have h:=line_barrier s hs dz0 (barrierD dz0 [115,116,97,116,105,99] [50] [49]) _ _ _ hw (saidBarrier dz0 _ _ _ _ (by decide) (by decide)) (fun t ht=>by rw [said_barrier] at ht;cases ht;rw [nums_2];decide) fun e he=>by rw [said_barrier] at he;cases he
 rw [said_barrier,tellD] at h
 simp only [nums_2] at h
 exact h

theorem finD_eq {d d':DZ} (hd:d' = { d with m:=finish d.m }) {n:Nat} {x:List UInt8} (hk:(d'.m).k=n) (h0:d.m.k=0) (ha:allZ d'.m=true) (hst:stuckZ d'.m=false) (hn:n≤100000) (hx:numsZ [(n:Int)]=x) :
  finishD d=(d',.ok (x++[32,116,114,117,101,32,102,97,108,115,101])):=by
 subst hd
 dsimp only at hk ha hst
 rw [finishD,hk,h0,ha,hst,wrap_i64 _ (by omega) (by omega)]
 rw [show ((n:Int)-((0:Nat):Int))=(n:Int) by omega,hx]
 rfl

theorem dBf:dzB.m.k=36∧allZ dzB.m=true∧stuckZ dzB.m=false∧checkZ 2 dzB.m.el=none∧allG 2 dzB.m.el=1∧anyR dzB.m.el=1∧dzB.m.ps.length=2:=by
 have w0:WF (danceM 3 2 1):=kind_w0 (by decide) (by decide) (by decide)
 have h:=finB_ok w0 fin1_ok
 rw [show dzB.m=finish (danceM 3 2 1) by simp only [dzB,dzA]]
 generalize finish (danceM 3 2 1)=z at h ⊢
 simp only [fin1,Bool.and_eq_true,beq_iff_eq,Bool.not_eq_true',Option.isNone_iff_eq_none] at h
 obtain ⟨⟨⟨⟨⟨⟨h1,h2⟩,h3⟩,h4⟩,h5⟩,h6⟩,h7⟩:=h
 exact ⟨h1,h2,h3,h4,h5,h6,h7⟩

theorem dDf:dzD.m.k=46∧allZ dzD.m=true∧stuckZ dzD.m=false∧dzD.m.ws≠[]∧pkRightB (gPh (dzD.m.ws.headD 0)) (gPa (dzD.m.ws.headD 0)) (gWa (dzD.m.ws.headD 0))=true∧gO (dzD.m.ws.headD 0)=true∧gPh (dzD.m.ws.headD 0)=1∧gPa (dzD.m.ws.headD 0)=0∧gWa (dzD.m.ws.headD 0)=0:=by
 have w0:WF dzC.m:=mz0_wf (by decide) (by decide) (by decide +kernel) (by decide +kernel)
 have h:=finB_ok w0 fin2x_ok
 rw [show dzD.m=finish dzC.m by simp only [dzD]]
 generalize finish dzC.m=z at h ⊢
 simp only [fin2x,Bool.and_eq_true,beq_iff_eq,Bool.not_eq_true',List.isEmpty_eq_false_iff] at h
 obtain ⟨⟨⟨⟨⟨⟨⟨⟨h1,h2⟩,h3⟩,h4⟩,h5⟩,h6⟩,h7⟩,h8⟩,h9⟩:=h
 exact ⟨h1,h2,h3,h4,h5,h6,h7,h8,h9⟩

theorem dB (s:List UInt8) (hs:s.length≤1000000000) (hw:wordsF s=[[102,105,110,105,115,104]]):LineX dzA s (dzB,[102,105,110,105,115,104,32,51,54,32,116,114,117,101,32,102,97,108,115,101]):=by
 obtain ⟨h1,h2,h3,_⟩:=dBf
 have e:=finD_eq (d:=dzA) (d':=dzB) rfl h1 rfl h2 h3 (by decide) nums_36
 have h:=line_finish s hs dzA _ hw (saidFinish dzA _) (fun t ht=>by rw [e] at ht;cases ht;decide) fun e' he=>by rw [e] at he;cases he
 rw [e] at h
 exact h

theorem dC (s:List UInt8) (hs:s.length≤1000000000) (hw:wordsF s=[[106,117,100,103,101]]):LineX dzB s (dzB,[106,117,100,103,101,32,49,32,49]):=by
 obtain ⟨_,_,_,h4,h5,h6,h7⟩:=dBf
 have e:judgeD dzB=(dzB,.ok [32,49,32,49]):=by
  rw [judgeD,h7,if_pos (by decide),h4,h5,h6,nums_11]
 have h:=line_judge s hs dzB _ hw (saidJudge dzB _) (fun t ht=>by rw [e] at ht;cases ht;decide) fun e' he=>by rw [e] at he;cases he
 rw [e] at h
 exact h

theorem dD (s:List UInt8) (hs:s.length≤1000000000) (hw:wordsF s=[[112,104,97,115,101,114],[49],[112,97,115,115,44,108,101,97,118,101]]):LineX dzB s (dzC,[112,104,97,115,101,114,32,49]):=by
 have h:=line_phaser s hs dzB (phaseD dzB [49] [[112,97,115,115,44,108,101,97,118,101]]) _ _ (by decide) hw (saidPhase dzB _ _ _ (by decide) (by decide) (by decide)) (fun t ht=>by rw [said_phaser] at ht;cases ht;rw [nums_1];decide) fun e he=>by rw [said_phaser] at he;cases he
 rw [said_phaser,tellD] at h
 simp only [nums_1] at h
 exact h

theorem dE (s:List UInt8) (hs:s.length≤1000000000) (hw:wordsF s=[[102,105,110,105,115,104]]):LineX dzC s (dzD,[102,105,110,105,115,104,32,52,54,32,116,114,117,101,32,102,97,108,115,101]):=by
 obtain ⟨h1,h2,h3,_⟩:=dDf
 have e:=finD_eq (d:=dzC) (d':=dzD) rfl h1 rfl h2 h3 (by decide) nums_46
 have h:=line_finish s hs dzC _ hw (saidFinish dzC _) (fun t ht=>by rw [e] at ht;cases ht;decide) fun e' he=>by rw [e] at he;cases he
 rw [e] at h
 exact h

theorem dF (s:List UInt8) (hs:s.length≤1000000000) (hw:wordsF s=[[115,116,97,116,101]]):LineX dzD s (dzD,[115,116,97,116,101,32,116,114,117,101,32,49,32,48,32,48]):=by
 obtain ⟨_,_,_,h4,h5,h6,h7,h8,h9⟩:=dDf
 have e:stateD dzD=(dzD,.ok [32,116,114,117,101,32,49,32,48,32,48]):=by
  rw [stateD,if_pos (show dzD.ph=true from rfl),if_pos h5,h6,h7,h8,h9,nums_100]
  rfl
 have h:=line_state s hs dzD _ hw (saidState dzD _ fun _=>h4) (fun t ht=>by rw [e] at ht;cases ht;decide) fun e' he=>by rw [e] at he;cases he
 rw [e] at h
 exact h

section

variable {K:KP}

theorem desked (h:K (bl true) [] sysH):Does Tryz.prog 6 [] sysH K:=by
 refine does Tryz.func6 rfl (by decide) ?_
 change Does Tryz.prog 10 _ _ _
 have hl:splitB 10 (trimSuf deskT [10])=[[98,97,114,114,105,101,114,32,115,116,97,116,105,99,32,50,32,49],[102,105,110,105,115,104],[106,117,100,103,101],[112,104,97,115,101,114,32,49,32,112,97,115,115,44,108,101,97,118,101],[102,105,110,105,115,104],[115,116,97,116,101],[120]]:=by decide +kernel
 refine sessionX (t:=deskT) (by decide) hl deskD deskS0 rfl (fun k s hk hs=>?_) (fun k hk=>?_) ?_
 · match k,hk with
   | 0,hk =>
     obtain rfl:=Option.some.inj hk
     exact dA _ hs dw0
   | 1,hk =>
     obtain rfl:=Option.some.inj hk
     exact dB _ hs dw1
   | 2,hk =>
     obtain rfl:=Option.some.inj hk
     exact dC _ hs dw2
   | 3,hk =>
     obtain rfl:=Option.some.inj hk
     exact dD _ hs dw3
   | 4,hk =>
     obtain rfl:=Option.some.inj hk
     exact dE _ hs dw4
   | 5,hk =>
     obtain rfl:=Option.some.inj hk
     exact dF _ hs dw5
   | 6,hk =>
     obtain rfl:=Option.some.inj hk
     have h:=line_x _ hs dzD dw6
     rw [err_3] at h
     exact h
   | k+7,hk=>simp at hk
 · have hall:∀ k<7,(deskS0 k).length≤1000000000:=by decide
   exact hall k hk
 · exact h

end
end
section
theorem longS {K:KP} (s:List UInt8) (h:K (bl (decide ((s.length:Int) > 900))) [] []):Does Tryz.prog 7 [st s] [] K:=by
 refine does Tryz.func7 rfl (by decide) ?_
 exact h

theorem deskPieces (a:List UInt8) (_ha:a.length≤maxLen) (b:List UInt8) (_hb:b.length≤maxLen):Does Tryz.prog 3 [st a,st b] [rtH,powH,errS,errR,namH] fun v _ _=>v=bl true:=by
 refine does Tryz.func3 rfl (by decide) ?_
 change Does Tryz.prog 6 _ _ _
 refine desked ?_
 change Does Tryz.prog 7 _ _ _
 refine Does.alone 5 (longS a ?_)
 refine bZ (fun _=>rfl) (fun hla=>?_)
 have hla:¬(a.length:Int) > 900:=oFa hla
 change Does Tryz.prog 7 _ _ _
 refine Does.alone 5 (longS b ?_)
 refine bZ (fun _=>rfl) (fun hlb=>?_)
 have hlb:¬(b.length:Int) > 900:=oFa hlb
 refine bZ (fun _=>rfl) (fun hne=>?_)
 have hne:a≠[]:=fun e=>by
  have h:(a == [])=false:=hne
  rw [e] at h
  cases h
 have htl:=trimR_len 10 a
 change Does Tryz.prog 8 _ _ _
 refine Does.alone 5 (trimRight (s:=a) (c:=10) (by decide) (by omega) hne ?_)
 refine And.intro (show (trimR 10 a).length+1≤9223372036854775807 by omega) (And.intro (show (trimR 10 a++[10]).length+b.length≤9223372036854775807 by rw [List.length_append,List.length_singleton];omega) ?_)
 have h1:(trimR 10 a++[10]++b).length≤2000:=by rw [List.length_append,List.length_append,List.length_singleton];omega
 change Does Tryz.prog 10 _ _ _
 refine session_all (t:=trimR 10 a++[10]++b) h1 ?_
 change Does Tryz.prog 10 _ _ _
 refine session_all (t:=trimR 10 a) (by omega) ?_
 change Does Tryz.prog 9 _ _ _
 refine Does.alone 5 (hasPrefix (sess_len h1) (sess_len (by omega)) ?_)
 rw [sess_more (fun t=>trimR_last) b]
 rfl
end
end Go.Mac
end
section
open Go Go.Proofs Go.Mac Go.ChangeShapes Go.WideShapes Go.ChangeAt Go.RowKit
set_option maxRecDepth 100000

namespace Go.Mac

theorem laidOut:laidOutB Tryz.prog=true:=by kernel_rfl

theorem VA_str {N:Nat} {L:Nat→Loc} {s:ByteArray}:VA N L (st s.data.toList) (.string s):=by
 show Value.string s=Value.string ⟨s.data.toList.toArray⟩
 congr

def locOf (l:List Loc) (i:Nat):Loc:=l.getD i ⟨⟨0,0,0,0⟩,fun _=>⟨0,0,0,0⟩⟩

end Go.Mac
end

section
namespace Go.Mac
open Go

def lightB (P:Program) (f:FuncId) (fn:Func) (s:ChangeSpec) (c:OpenClaim):Bool :=
 c.wf (OpenSpec.ofChange s) && laidOutB P && mapsRowed P &&
 fn.params.all (P.readableRec ·) && namedTie P c.named s.vars &&
 (c.stops == []) && (P.stops == []) && (c.knobs == []) && (P.stopKnobs == []) &&
 (c.inPlace == P.inPlace f) && (c.unfollowed == P.unfollowed f) && (c.recurses == P.recurses f) && (c.named == P.varsNamed f) &&
 (c.maps == (fn.params.toList++s.plain.varTypes P).any (P.mapsRec ·)) && (c.ifaces == (fn.params.toList++s.plain.varTypes P).any (P.ifacesRec ·)) && (c.mapsOut == P.mapsAmong fn.resultTypes.toList) &&
 (c.loops == (fn.params.toList++s.plain.varTypes P).any (P.loopsFrom ·)) && (c.wideKeys == (fn.params.toList++s.plain.varTypes P++fn.resultTypes.toList).any (P.wideKeysFrom ·)) &&
 s.vars.all (P.varReadable ·) && fn.resultTypes.all (fun t=>P.readableRec t && decide (t<P.types.size)) && (c.ifacesOut == fn.resultTypes.toList.any (P.ifacesRec ·)) && (c.loopsOut == fn.resultTypes.toList.any (P.loopsFrom ·)) && c.shortTexts.isNone && (c.kinds == (if c.domain.isEmpty then [] else fn.params.toList.map fun t=>match P.underlying t with | some (.int k)=>some k | _=>none)) && (c.pinned == c.pinnedBy) &&
 (c.veiled == (fn.params.toList++s.plain.varTypes P++fn.resultTypes.toList).any (P.veiledRec ·)) && c.veiledFits P fn.params.toList (fn.params.toList++s.plain.varTypes P++fn.resultTypes.toList)

def heavyB (P:Program) (c:OpenClaim):Bool:=(c.plainKeys == P.plainKeys) && P.stopsHeard && P.mayEnter && (c.lifted == P.liftsFinal) && (P.make == some c.make)

theorem joined_of {P:Program} {f:FuncId} {fn:Func} {s:ChangeSpec} {c:OpenClaim} (g1:lightB P f fn s c=true) (g2:heavyB P c=true):joinedFacts P f fn s c=true:=by
 simp only [lightB,Bool.and_eq_true] at g1
 simp only [heavyB,Bool.and_eq_true] at g2
 obtain ⟨⟨⟨⟨⟨⟨⟨⟨⟨⟨⟨⟨⟨⟨⟨⟨⟨⟨⟨⟨⟨⟨⟨⟨⟨⟨a1,a2⟩,a3⟩,a4⟩,a5⟩,a6⟩,a7⟩,a8⟩,a9⟩,a10⟩,a11⟩,a12⟩,a13⟩,a14⟩,a15⟩,a16⟩,a17⟩,a18⟩,a19⟩,a20⟩,a21⟩,a22⟩,a23⟩,a24⟩,a25⟩,a26⟩,a27⟩:=g1
 obtain ⟨⟨⟨⟨h1,h2⟩,h3⟩,h4⟩,h5⟩:=g2
 simp only [joinedFacts,Bool.and_eq_true]
 exact ⟨⟨⟨⟨⟨⟨⟨⟨⟨⟨⟨⟨⟨⟨⟨⟨⟨⟨⟨⟨⟨⟨⟨⟨⟨⟨⟨⟨⟨⟨⟨a1,a2⟩,a3⟩,a4⟩,a5⟩,a6⟩,a7⟩,a8⟩,a9⟩,a10⟩,a11⟩,a12⟩,a13⟩,a14⟩,a15⟩,a16⟩,a17⟩,a18⟩,a19⟩,a20⟩,a21⟩,a22⟩,h1⟩,a23⟩,h2⟩,h3⟩,h4⟩,h5⟩,a24⟩,a25⟩,a26⟩,a27⟩

end Go.Mac
end

section
namespace Go.Proofs.YtollgfhpcidkgaaGreatDoor
open Go.Mac

theorem heavy:heavyB Tryz.prog Rows.deskPiecesRow=true:=by kernel_rfl

end Go.Proofs.YtollgfhpcidkgaaGreatDoor
end

section
namespace Go.Proofs.YtollgfhpcidkgaaGreatDoor

theorem looksAll:true=Tryz.prog.looks []:=by kernel_rfl

end Go.Proofs.YtollgfhpcidkgaaGreatDoor
end

section
namespace Go.Proofs.YtollgfhpcidkgaaGreatDoor

theorem mainAll:Tryz.prog.mainIs=some (Rows.deskPiecesCard.stood.harness.1,Rows.deskPiecesCard.stood.harness.2.toList):=by kernel_rfl

end Go.Proofs.YtollgfhpcidkgaaGreatDoor
end

section
open Go Go.Proofs Go.Mac Go.ChangeShapes Go.WideShapes Go.ChangeAt Go.RowKit
set_option maxRecDepth 100000

namespace Go.Mac

open Go.Proofs.YtollgfhpcidkgaaGreatDoor.Rows in
abbrev laidE:List (String×DataW Unit):=[("math/bits.deBruijn32tab",laid_math_bits_deBruijn32tab),("math/bits.deBruijn64tab",laid_math_bits_deBruijn64tab),("internal/strconv.uint64pow10",laid_internal_strconv_uint64pow10),("unicode/utf8.acceptRanges",laid_unicode_utf8_acceptRanges),("errors.errorType",laid_errors_errorType),("strconv.ErrRange",laid_strconv_ErrRange),("strconv.ErrSyntax",laid_strconv_ErrSyntax),("quadrille/desk.names",laid_quadrille_desk_names),("unicode/utf8.first",laid_unicode_utf8_first)]

open Go.Proofs.YtollgfhpcidkgaaGreatDoor.Rows in
abbrev laidN:List (String×DataW Unit):=[("math/bits.deBruijn32tab",laid_math_bits_deBruijn32tab),("math/bits.deBruijn64tab",laid_math_bits_deBruijn64tab),("internal/strconv.uint64pow10",laid_internal_strconv_uint64pow10),("unicode/utf8.acceptRanges",laid_unicode_utf8_acceptRanges),("strconv.ErrRange",laid_strconv_ErrRange),("strconv.ErrSyntax",laid_strconv_ErrSyntax),("quadrille/desk.names",laid_quadrille_desk_names),("unicode/utf8.first",laid_unicode_utf8_first)]

abbrev laidH:List (String×DataW Unit):=[("errors.errorType",Go.Proofs.YtollgfhpcidkgaaGreatDoor.Rows.laid_errors_errorType)]

theorem laid_et:Tryz.prog.globalNamed "errors.errorType" = some 0:=by kernel_rfl
theorem laid_rt:(Tryz.prog.cutTypes.find? (·.1 == "internal/reflectlite.rtype")).map (·.2)=some 216:=by kernel_rfl
theorem laid_oneRow:((List.range 353).filter fun t=>Tryz.prog.rowNamed t [101,114,114,111,114])=[30]:=by kernel_rfl
theorem laid_size:Tryz.prog.types.size=353:=by kernel_rfl

theorem laid_parts {W:World} (h:laidMetH Tryz.prog laidE W):laidMet Tryz.prog laidN W∧handlesMet Tryz.prog laidH W:=h

theorem handle_of_laid {W:World} (h:laidMetH Tryz.prog laidE W):W.cell? ⟨0,0,none⟩ = some (.iface 216 (.agg #[.pointer (some ⟨10,30,none⟩)])):=by
 obtain ⟨name,u,ty,e1,e2,e3,e4,e5⟩:=(laid_parts h).2 _ (List.mem_singleton.2 rfl)
 have en:name=[101,114,114,111,114]:=(Option.some.inj e1).symm
 subst en
 obtain rfl:=Option.some.inj (laid_rt.symm.trans e2)
 have hm:ty∈(List.range 353).filter fun t=>Tryz.prog.rowNamed t [101,114,114,111,114]:=List.mem_filter.2 ⟨List.mem_range.2 (by rw [←laid_size];exact e3),e4⟩
 rw [laid_oneRow] at hm
 obtain rfl:=List.mem_singleton.1 hm
 have hh:typeHandle Tryz.prog 30=.pointer (some ⟨10,30,none⟩):=by kernel_rfl
 rw [hh] at e5
 simpa using World.var?_cell laid_et e5 0

theorem pow_data:Go.Proofs.YtollgfhpcidkgaaGreatDoor.Rows.laid_internal_strconv_uint64pow10 (H:=Unit)=Lib.tabData .u64 Lib.pow10Tab:=by kernel_rfl

theorem pow_of_laid {W:World} (h:laidMetH Tryz.prog laidE W):Lib.TabIs Tryz.prog W "internal/strconv.uint64pow10" .u64 Lib.pow10Tab:=by
 have h':=(laid_parts h).1.tail.tail
 rw [pow_data] at h'
 exact Lib.tabIs_of_head pow_named (t:=294) (e:=74) (n:=20) (by kernel_rfl) Tryz.underlying294 Tryz.underlying74 (by kernel_rfl) (by kernel_rfl) h'

noncomputable def laidWorld0 (os:Os):World :=
 let w0:=World.holding Tryz.prog os ⟨#[],#[],[]⟩
 { w0 with heap:=w0.heap.modify 0 fun
   | .cells _ t frozen=>.cells #[.iface 216 (.agg #[.pointer (some ⟨10,30,none⟩)])] t frozen
   | o=>o }
noncomputable def laidWorld (os:Os):World:=(laidWorld0 os).layVars Tryz.prog laidN
theorem laidWorld_os (os:Os):(laidWorld os).os=os:=World.layVars_os _ _ _
theorem laidN_filter:(laidN.filter fun x=>(laidN.map (·.1)).contains x.1)=laidN:=List.filter_eq_self.2 fun x hx=>List.contains_iff_mem.2 (List.mem_map.2 ⟨x,hx,rfl⟩)
theorem laidN_rest:(laidN.filter fun x=>!(laidN.map (·.1)).contains x.1)=[]:=List.filter_eq_nil_iff.2 fun x hx=>by rw [List.contains_iff_mem.2 (List.mem_map.2 ⟨x,hx,rfl⟩)];simp
theorem laidWorld_plain (os:Os):laidMet Tryz.prog laidN (laidWorld os) :=
 laidMet_layVars (w0:=laidWorld0 os) (laidN.map (·.1)) [] (by rw [laidN_filter];rfl) (by rw [laidN_filter];kernel_rfl) (by rw [laidN_filter];kernel_rfl) (by rw [laidN_rest];exact LaidIn.none)
theorem laidWorld_met (os:Os) (args:Array Value):laidMetH Tryz.prog laidE ((laidWorld os).forCall (fun _ _=>0) ⟨#[],args,[]⟩).memory :=
 laidMetH_of_parts ((laidWorld_plain os).of_heap (by simp [World.memory,World.forCall,Input.heap])) (by kernel_rfl)

theorem handle_obj {W:World} (h:laidMetH Tryz.prog laidE W) (N:Nat) (L:Nat→Loc) {l:Loc}:OR N L W (.hnd 0 216 10 30) l:=handle_of_laid h
theorem handle_ro {W:World} (h:laidMetH Tryz.prog laidE W) (l:Loc) (b:Nat) (hb:Ro (.hnd 0 216 10 30) l b):b<W.heap.size:=by
 have hg:=handle_of_laid h
 obtain rfl:b=0:=hb
 rcases Nat.lt_or_ge 0 W.heap.size with h | h
 · exact h
 · simp [World.cell?,Array.getElem?_eq_none h] at hg
theorem pow_cells {W:World} (h:laidMetH Tryz.prog laidE W):∃ t fr,W.heap[(5:Nat)]? = some (.cells ((Lib.pow10Tab.map fun z=>FC.int .u64 z).map FC.val).toArray t fr):=by
 have h':=pow_of_laid h
 unfold Lib.TabIs World.var? at h'
 rw [pow_named] at h'
 change (match W.heap[(5:Nat)]? with | some (Obj.cells cs _ _)=>some cs | _=>none)=_ at h'
 split at h'
 · rename_i cs t fr e
   refine ⟨t,fr,e.trans ?_⟩
   rw [Option.some.inj h',List.map_map]
   rfl
 · cases h'
theorem pow_obj {W:World} (h:laidMetH Tryz.prog laidE W) (N:Nat) (L:Nat→Loc) {l:Loc}:OR N L W powH l:=pow_cells h
theorem pow_ro {W:World} (h:laidMetH Tryz.prog laidE W) (l:Loc) (b:Nat) (hb:Ro powH l b):b<W.heap.size:=by
 obtain ⟨t,fr,hg⟩:=pow_cells h
 obtain rfl:b=5:=hb
 exact (Array.getElem?_eq_some_iff.1 hg).1

end Go.Mac
end

section
open Go Go.Proofs Go.Mac Go.ChangeShapes Go.WideShapes Go.ChangeAt Go.RowKit
set_option maxRecDepth 100000

namespace Go.Mac

theorem errS_named:Tryz.prog.globalNamed "strconv.ErrSyntax" = some 6:=by kernel_rfl
theorem errR_named:Tryz.prog.globalNamed "strconv.ErrRange" = some 7:=by kernel_rfl
theorem errS_type:(Tryz.prog.globals[(6:Nat)]?).map (·.type)=some 30:=by kernel_rfl
theorem errR_type:(Tryz.prog.globals[(7:Nat)]?).map (·.type)=some 30:=by kernel_rfl
theorem errCells:Tryz.prog.cellsOf 326=1:=by kernel_rfl
theorem strCells1:Tryz.prog.cellsOf 9=1:=by kernel_rfl

theorem errStar : "*errors.errorString" = "*" ++ "errors.errorString" := by decide
theorem errRow (u:TypeId) (h:Tryz.prog.typeName? 3 u=some "*errors.errorString"):u=324 :=
 typeName_ptr_named (nm := "errors.errorString") (by rw [←errStar];kernel_rfl) (by kernel_rfl) (by decide) u (by rw [←errStar];exact h)

theorem errS_cell {W:World} (h:laidMetH Tryz.prog laidE W):∃ t p,W.cell? ⟨6,0,none⟩ = some (.iface t p):=by
 have h:=(laid_parts h).1
 have h':=h.tail.tail.tail.tail.tail
 obtain ⟨a,s,hv,_⟩:=laid_sentinel h' errS_named errS_type Tryz.underlying30 errRow Tryz.underlying324 Tryz.underlying326 rfl rfl Tryz.underlying9 errCells strCells1
 exact ⟨_,_,by simpa using World.var?_cell errS_named hv 0⟩

theorem errR_cell {W:World} (h:laidMetH Tryz.prog laidE W):∃ t p,W.cell? ⟨7,0,none⟩ = some (.iface t p):=by
 have h:=(laid_parts h).1
 have h':=h.tail.tail.tail.tail
 obtain ⟨a,s,hv,_⟩:=laid_sentinel h' errR_named errR_type Tryz.underlying30 errRow Tryz.underlying324 Tryz.underlying326 rfl rfl Tryz.underlying9 errCells strCells1
 exact ⟨_,_,by simpa using World.var?_cell errR_named hv 0⟩

theorem cellLt {W:World} {g:Nat} {v:Value} (h:W.cell? ⟨g,0,none⟩ = some v):g<W.heap.size:=by
 rcases Nat.lt_or_ge g W.heap.size with h' | h'
 · exact h'
 · simp [World.cell?,Array.getElem?_eq_none h'] at h

theorem errS_obj {W:World} (h:laidMetH Tryz.prog laidE W) (N:Nat) (L:Nat→Loc) {l:Loc}:OR N L W errS l:=errS_cell h
theorem errR_obj {W:World} (h:laidMetH Tryz.prog laidE W) (N:Nat) (L:Nat→Loc) {l:Loc}:OR N L W errR l:=errR_cell h
theorem errS_ro {W:World} (h:laidMetH Tryz.prog laidE W) (l:Loc) (b:Nat) (hb:Ro errS l b):b<W.heap.size:=by
 obtain ⟨_,_,hc⟩:=errS_cell h
 obtain rfl:b=6:=hb
 exact cellLt hc
theorem errR_ro {W:World} (h:laidMetH Tryz.prog laidE W) (l:Loc) (b:Nat) (hb:Ro errR l b):b<W.heap.size:=by
 obtain ⟨_,_,hc⟩:=errR_cell h
 obtain rfl:b=7:=hb
 exact cellLt hc

theorem names_named:Tryz.prog.globalNamed "quadrille/desk.names" = some 4:=by kernel_rfl

theorem cells_of_strs {H:Type} {enc:TypeId×Value→H} {P:Program} {w:World} {base:Nat} {sp:Nat→Bool} {held:Bool} {fuel:Nat} {t e:TypeId} {n:Nat} {cs:List Value} {zs:List (List UInt8)} {p:List MemPlace}
  (ht:P.underlying t=some (.array n e)) (he:P.underlying e=some .string) (hce:P.cellsOf e=1) (hct:P.cellsOf t=n)
  (h:DataW.trod enc P w base sp held fuel t cs=some (.agg (zs.map fun z=>.lit (.string z)),p)):cs=zs.map fun z=>Value.string ⟨z.toArray⟩:=by
 cases fuel with
 | zero=>simp [DataW.trod] at h
 | succ fuel =>
   simp only [DataW.trod,ht,hce,hct,Nat.mul_one] at h
   split at h
   · rename_i hl
     obtain ⟨xs,hm,hx⟩:=Option.map_eq_some_iff.1 h
     have hxs:xs.map (·.1)=zs.map fun z=>(DataW.lit (.string z):DataW H):=by
      have:=congrArg Prod.fst hx
      simpa using this
     have hxl:xs.length=n:=by simpa using Lib.mapM_length hm
     have hzl:zs.length=n:=by
      have:=congrArg List.length hxs
      simp at this
      omega
     apply List.ext_getElem?
     intro i
     by_cases hi:i<n
     · obtain ⟨b,hb,hf⟩:=Lib.mapM_at hm i i (by simp [hi])
       obtain ⟨z,hc,rfl,_⟩:=DataW.trod_string he hf
       have h1:cs[i]? = some (.string z):=by
        have:=congrArg (·[0]?) hc
        simpa [List.getElem?_take,List.getElem?_drop] using this
       have h2:(xs.map (·.1))[i]? = some (DataW.lit (.string z.data.toList):DataW H):=by simp [hb]
       rw [hxs] at h2
       simp only [List.getElem?_map,Option.map_eq_some_iff,DataW.lit.injEq,Lit.string.injEq] at h2
       obtain ⟨z',hz',hz2⟩:=h2
       rw [h1,List.getElem?_map,hz',Option.map_some,hz2]
     · rw [List.getElem?_eq_none (by omega),List.getElem?_eq_none (by simp;omega)]
   · cases h

theorem names_data:Go.Proofs.YtollgfhpcidkgaaGreatDoor.Rows.laid_quadrille_desk_names (H:=Unit)=.agg (namL.map fun z=>.lit (.string z)):=rfl

theorem names_cells {W:World} (h:laidMetH Tryz.prog laidE W):∃ t fr,W.heap[(4:Nat)]? = some (.cells ((namL.map FC.str).map FC.val).toArray t fr):=by
 have h:=(laid_parts h).1
 have h':=h.tail.tail.tail.tail.tail.tail
 rw [names_data] at h'
 obtain ⟨ps,⟨g',t',cs,fuel,p,q,hg',ht',hvar,hd,_,_⟩,_⟩:=h'
 obtain rfl:=Option.some.inj (names_named.symm.trans hg')
 have hty:(Tryz.prog.globals[(4:Nat)]?).map (·.type)=some 275:=by kernel_rfl
 obtain rfl:=Option.some.inj (hty.symm.trans ht')
 have hcs:=cells_of_strs (n:=19) (e:=9) Tryz.underlying275 Tryz.underlying9 (by kernel_rfl) (by kernel_rfl) hd
 unfold World.var? at hvar
 rw [names_named] at hvar
 change (match W.heap[(4:Nat)]? with | some (Obj.cells cs _ _)=>some cs | _=>none)=_ at hvar
 split at hvar
 · rename_i cs' t fr e
   refine ⟨t,fr,e.trans ?_⟩
   have hcs2:cs=(namL.map fun z=>Value.string ⟨z.toArray⟩).toArray:=by rw [←hcs]
   rw [Option.some.inj hvar,hcs2,List.map_map]
   rfl
 · cases hvar
theorem names_obj {W:World} (h:laidMetH Tryz.prog laidE W) (N:Nat) (L:Nat→Loc) {l:Loc}:OR N L W namH l:=names_cells h
theorem names_ro {W:World} (h:laidMetH Tryz.prog laidE W) (l:Loc) (b:Nat) (hb:Ro namH l b):b<W.heap.size:=by
 obtain ⟨t,fr,hg⟩:=names_cells h
 obtain rfl:b=4:=hb
 exact (Array.getElem?_eq_some_iff.1 hg).1

end Go.Mac
end

section
open Go

namespace Go.Mac

theorem leaving_of_handed {a:Assume} {C:Checked} {os:Os} {f:FuncId} {r:Reach} {Pre:World→Array Value→Prop} {Post:World→Array Value→Value→World→Prop}
  (h:ReturnsInHanded a C os f r Pre Post):ReturnsInLeavingWide a C os f r Pre Post :=
 fun e=>ReturnsInOpen.mono (fun _ _ _ x=>⟨x.2.1,onlyLeaving_of_quiet x.1,x.2.2⟩) (fun _ x=>x) (h e)

theorem holds_tied_goes (Lk:Looks) {p:Pinned} {s:OpenSpec} {c:OpenClaim} (al:List (List PathCond)) (kinds:List LaidKind) (tests:Bool) (har:Bool×String) (lk:Bool)
  (hc:c.holds p s) (hal:∀ D∈al,(c.withDomain D).holds p s) (hw:c.wfByText s=true) (hwal:∀ D∈al,(c.withDomain D).wfByText s=true)
  (htie:c.laidByTextAt Lk p kinds tests)
  (hst:c.start=.entering) (hnb:c.noBlocks=false∧c.again=false) (hm:p.checked.prog.mainIs=some (har.1,har.2.toList)) (hn:(!har.1 && har.2.isEmpty && !lk)=false)
  (hl:∀ f fn,p.checked.prog.funcNamed c.func=some f→p.checked.prog.funcs[f]? = some fn→lk=p.checked.prog.looks []∧∀ (j:Nat) t,fn.params[j]? = some t→p.checked.prog.wantsStandIn t=false)
  (hg:true=c.goesBy p.checked.prog) :
  Claim7.holds p (.plain s) { stood:={ row:=c,standIns:=[],harness:=har,looks:=lk },kinds:=[],alts:=al,goes:=true,laidByText:=true,laidKinds:=kinds,laidTests:=tests,laidLooks:=Lk }:=by
 have h6:∀ r:OpenClaim,Claim7.isSixth { stood:={ row:=r,standIns:=[],harness:=har,looks:=lk },kinds:=[] }=false:=fun r=>by simpa [Claim7.isSixth] using hn
 refine ⟨Claim7.tied_new_at Lk kinds tests (Claim7.new_of_sixth hc har lk hst hnb hm (h6 c) hl) hw,fun D hD=>?_,htie,(fun h=>by cases h),hg⟩
 exact Claim7.tied_new_at Lk kinds tests (Claim7.new_of_sixth (hal D hD) har lk hst hnb hm (h6 _) hl) (hwal D hD)

end Go.Mac
end
