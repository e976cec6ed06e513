/- Texts that the last one goes by: Ev6, Ev7, Ev8, Ev9, Open, Law, Data, PD, ZL, LawZ, MarkZ, MarkW, PO, PB, PS, PP, EvL, PS2, PS3, HldP, HldR, ZL2, HldS, MarkM, AP, Shelf, SrtB, SrtV, SrtA. -/
import Derived.Test.YtnbdlncbfjkpcaaGreatAvA3
import Derived.Lib.Bytealg
import Derived.Laws.Externs
import Derived.Sort.Grow
import Derived.Sort.EncStr
import Derived.Test.YtnbdlncbfjkpcaaGreatAvA0
import Derived.ChangeArms
import Derived.Carry
import Derived.SizedLaws
import Derived.DataReads
import Derived.ChangeOld
import Derived.ShutString
import Derived.WideShapes
import Derived.RowKit
import Derived.Below
import Derived.Test.YtnbdlncbfjkpcaaGreatAvA2
import Derived.Shelf.SlIter.Sorted
import Derived.Shelf.SortM.Plain
import Derived.Shelf.SortM.SortNone
import Derived.Ground.GgzProg
import Derived.Ground.SlgmProg
import Derived.Test.YtnbdlncbfjkpcaaGreatProg
import Derived.RangeFuncBox
import Derived.RangeFuncLeaves
import Derived.Shelf.Abstract
import Derived.WalkKit
import Derived.OwnWalkIn
import Derived.TacticsInMore
import Derived.LoopNIn
import Derived.LoopIn
set_option linter.all false
set_option linter.unusedVariables false
set_option linter.unusedSimpArgs false
section
namespace Go.Av
attribute [push_cast] gw.eq_1 gw.eq_2 guardOf.eq_1 guardOf.eq_2 guardOf.eq_3 guardOf.eq_4 guardOf.eq_5 guardOf.eq_6 guardOf.eq_7 guardOf.eq_8 guardOf.eq_9 guardOf.eq_10 guardOf.eq_11 guardOf.eq_12 guardOf.eq_13 guardOf.eq_14 guardOf.eq_15 guardOf.eq_16 lop.eq_1 leff.eq_1 leff.eq_2 leff.eq_3 leff.eq_4 leff.eq_5 leff.eq_6 leff.eq_7 leff.eq_8 leff.eq_9 leff.eq_10 leff.eq_11 leff.eq_12 leff.eq_13 leff.eq_14 leff.eq_15 leff.eq_16 leff.eq_17 leff.eq_18 leff.eq_19 evc.eq_1 evc.eq_2 evc.eq_3 evc.eq_4 put.eq_1 put.eq_2 fieldAt.eq_1 fieldAt.eq_2 fieldAt.eq_3 fieldAt.eq_4 fieldAt.eq_5 fieldAt.eq_6 fieldAt.eq_7 fieldAt.eq_8 fieldAt.eq_9 fieldAt.eq_10 fieldAt.eq_11 loadAt.eq_1 loadAt.eq_2 loadAt.eq_3 loadAt.eq_4 loadAt.eq_5 loadAt.eq_6 loadAt.eq_7 loadAt.eq_8 loadAt.eq_9 loadAt.eq_10 loadAt.eq_11 takeTV.eq_1 takeTV.eq_2 takeT.eq_1 takeT.eq_2 lenOf.eq_1 lenOf.eq_2 lenOf.eq_3 lenOf.eq_4 lenOf.eq_5 binAt.eq_1 binAt2.eq_1 binAt2.eq_2 binAt2.eq_3 binAt2.eq_4 binAt2.eq_5 binAt2.eq_6 binAt2.eq_7 shiftAt.eq_1 shiftAt.eq_2 shiftI.eq_1 shiftI.eq_2 shiftI.eq_3 isShift.eq_1 isShift.eq_2 isShift.eq_3 intBin.eq_1 intBin.eq_2 intBin.eq_3 intBin.eq_4 intBin.eq_5 intBin.eq_6 intBin.eq_7 intBin.eq_8 intBin.eq_9 intBin.eq_10 intBin.eq_11 intBin.eq_12 intBin.eq_13 intBin.eq_14 intBin.eq_15 intBin.eq_16 boolBin.eq_1 boolBin.eq_2 boolBin.eq_3 strBin.eq_1 strBin.eq_2 strBin.eq_3 strBin.eq_4 strBin.eq_5 strBin.eq_6 strBin.eq_7 strBin.eq_8 hasKey.eq_1 hasKey.eq_2 kOf.eq_1 indexAt.eq_1 indexAt.eq_2 indexAt.eq_3 valTV.eq_1 valTV.eq_2 valTV.eq_3 valTV.eq_4 valTV.eq_5 valTV.eq_6 boxCells.eq_1 boxCells.eq_2 boxCells.eq_3 arrEs.eq_1 arrEs.eq_2 arrEs.eq_3 intOfTV.eq_1 intOfTV.eq_2 boolOfTV.eq_1 boolOfTV.eq_2 effOn.eq_1 effOn.eq_2 bleff.eq_1 bleff.eq_2 bleff.eq_3 unAt.eq_1 unAt.eq_2 unAt.eq_3 extractAt.eq_1 extractAt.eq_2 convAt.eq_1 convAt.eq_2 fillTV.eq_1 fillTV.eq_2 setSeg.eq_1 cellsOf.eq_1 cellsOf.eq_2 cellsOf.eq_3 cellsOf.eq_4 cellsOf.eq_5 cellsOf.eq_6 cellsOf.eq_7 cellsOf.eq_8 cellsOf.eq_9 cellsOf.eq_10 cellsOf.eq_11 strIndex.eq_1 strIndex.eq_2 boundOf.eq_1 boundOf.eq_2 sliceAt.eq_1 sliceAt.eq_2 sliceAt.eq_3 unA.eq_1 unA.eq_2 unA.eq_3 unA.eq_4 unA.eq_5 unA.eq_6 eqK.eq_1 eqK.eq_2 eqK.eq_3 eqK.eq_4 eqKs.eq_1 eqKs.eq_2 eqKs.eq_3 ownKeys.eq_1 ownKeys.eq_2 ownKeys.eq_3 ownKeys.eq_4 ownKeys.eq_5 ownKeys.eq_6 ownKeys.eq_7 ownKeys.eq_8 ownKeys.eq_9 ownKeys.eq_10 ownKeys.eq_11 ownKeysL.eq_1 ownKeysL.eq_2 frz.eq_1 frz.eq_2 frz1.eq_1 frz1.eq_2 frzObj.eq_1 frzObj.eq_2 frzObj.eq_3 setN.eq_1 storeAt.eq_1 storeAt.eq_2 storeAt.eq_3 astore.eq_1 storeObj.eq_1 storeObj.eq_2 storeObj.eq_3 storeObj.eq_4 storeObj.eq_5 storeBox.eq_1 storeArr.eq_1 toTs.eq_1 toTs.eq_2 toTs.eq_3 toTs.eq_4 toTs.eq_5 single.eq_1 single.eq_2 single.eq_3 single.eq_4 ares.eq_1 ares.eq_2 ares.eq_3 afin.eq_1 afin.eq_2 init.eq_1 argT.eq_1 argT.eq_2 TV.ren.eq_1 TV.ren.eq_2 TV.ren.eq_3 TV.ren.eq_4 TV.ren.eq_5 TV.ren.eq_6 TV.ren.eq_7 TV.ren.eq_8 TV.ren.eq_9 TV.ren.eq_10 TV.ren.eq_11 renL.eq_1 renL.eq_2 Obj.ren.eq_1 Obj.ren.eq_2 Obj.ren.eq_3 renO.eq_1 renO.eq_2 delL.eq_1 delL.eq_2 newKs.eq_1 newKs.eq_2 noneIn.eq_1 noneIn.eq_2 merge.eq_1 rk.eq_1 TV.scr.eq_1 TV.scr.eq_2 TV.scr.eq_3 TV.scr.eq_4 TV.scr.eq_5 TV.scr.eq_6 TV.scr.eq_7 TV.scr.eq_8 TV.scr.eq_9 TV.scr.eq_10 TV.scr.eq_11 scrL.eq_1 scrL.eq_2 Obj.scr.eq_1 Obj.scr.eq_2 Obj.scr.eq_3 scrT.eq_1 scrT.eq_2 scrO.eq_1 scrO.eq_2 baseEs.eq_1 baseEs.eq_2 baseEs.eq_3 readEs.eq_1 readEs.eq_2 readEs.eq_3 readEs.eq_4 readEs.eq_5 fillEs.eq_1 fillEs.eq_2 partKeys.eq_1 partKeys.eq_2 keysTV.eq_1 keysTV.eq_2 keysTV.eq_3 keysTV.eq_4 keysTV.eq_5 keysTV.eq_6 keysTV.eq_7 keysTV.eq_8 keysTV.eq_9 keysTV.eq_10 keysTV.eq_11 keysL.eq_1 keysL.eq_2 keysO.eq_1 keysO.eq_2 keysO.eq_3 keysO.eq_4 reach.eq_1 reach.eq_2 reach.eq_3 TV.okB.eq_1 TV.okB.eq_2 TV.okB.eq_3 TV.okB.eq_4 TV.okB.eq_5 TV.okB.eq_6 TV.okB.eq_7 TV.okB.eq_8 TV.okB.eq_9 TV.okB.eq_10 TV.okB.eq_11 okBL.eq_1 okBL.eq_2 Obj.okOB.eq_1 Obj.okOB.eq_2 Obj.okOB.eq_3 nodupB.eq_1 nodupB.eq_2 idx.eq_1 idx.eq_2 nth.eq_1 nth.eq_2 nth.eq_3 pick.eq_1 pick.eq_2 allOk.eq_1 allOk.eq_2 pickI.eq_1 pickI.eq_2 lowTV.eq_1 lowTV.eq_2 lowTV.eq_3 lowTV.eq_4 lowTV.eq_5 lowTV.eq_6 lowTV.eq_7 lowTV.eq_8 lowTV.eq_9 lowTV.eq_10 lowTV.eq_11 lowL.eq_1 lowL.eq_2 prep1.eq_1 prep2.eq_1 prep2.eq_2 prep.eq_1 prep.eq_2 prep.eq_3 prep.eq_4 prep.eq_5 prep.eq_6 prep.eq_7 prep.eq_8 prep.eq_9 prep.eq_10 prep.eq_11 post.eq_1 canon.eq_1 news.eq_1 news.eq_2 efin2.eq_1 efin1.eq_1 efin1.eq_2 efin.eq_1 efin.eq_2 efin.eq_3 efin.eq_4 efin.eq_5 efin.eq_6 efin.eq_7 keepT.eq_1 keepT.eq_2 valsT.eq_1 valsT.eq_2 renT.eq_1 renT.eq_2 asArr.eq_1 asArrs.eq_1 asArrs.eq_2 canon2.eq_1 low40.eq_1 low40.eq_2 prune2.eq_1 prune.eq_1 headSt.eq_1 apSt.eq_1 eappend.eq_1 mkArr.eq_1 emake.eq_1 ebuild.eq_1 ebytes.eq_1 ebytes.eq_2 estr.eq_1 strEs.eq_1 strEs.eq_2 strEs.eq_3 strEs.eq_4 eslice.eq_1 eslice.eq_2 eslice.eq_3 eslice.eq_4 eslice.eq_5 eslice.eq_6 eslice.eq_7 eslice.eq_8 eslice.eq_9 eslice.eq_10 eslice.eq_11 eslice.eq_12 eslice1.eq_1 eslice1.eq_2 eslice1.eq_3 eslice2.eq_1 resl.eq_1 isSl.eq_1 isSl.eq_2 isSl.eq_3 isSl.eq_4 ezero.eq_1 eop.eq_1 eop.eq_2 eop.eq_3 eop.eq_4 eop.eq_5 eop.eq_6 eop.eq_7 eop.eq_8 callOf.eq_1 callOf.eq_2 firstRegion.eq_1 firstRegion.eq_2 firstRegion.eq_3 firstRegion.eq_4 firstRegion.eq_5 thenS.eq_1 thenS.eq_2 thenS.eq_3 thenS.eq_4 thenS.eq_5 thenS.eq_6 thenS.eq_7 inBE.eq_1 inBE.eq_2 leave.eq_1 leave.eq_2 leave.eq_3 normC.eq_1 normC.eq_2 roundC.eq_1 roundC.eq_2 roundC.eq_3 roundC.eq_4 roundC.eq_5 roundC.eq_6 roundC.eq_7 evOpD.eq_1 evOpD.eq_2 eopD.eq_1 keysOf.eq_1 evExt.eq_1 evExt.eq_2 evExtP.eq_1 evExtP.eq_2 extOf.eq_1 extOf.eq_2 extOf.eq_3 extOf.eq_4 extOf.eq_5 extOf.eq_6 extOf.eq_7 extOf.eq_8 extOf.eq_9 extOf.eq_10 extOf.eq_11 extOf.eq_12 evD1.eq_1 evD1.eq_2 evD2.eq_1 evD2.eq_2 evD3.eq_1 evD3.eq_2 evD3.eq_3 evD4.eq_1 evD4.eq_2 eqAt.eq_1 eqAt.eq_2 keysA.eq_1 keysA.eq_2 allIn.eq_1 allIn.eq_2 sameP.eq_1 pv.eq_1 pv2.eq_1 effVal.eq_1 effVal.eq_2 effVal.eq_3 evPu.eq_1 evPu.eq_2 reB.eq_1 reB.eq_2 gval.eq_1 evK.eq_1 evK.eq_2 evPost.eq_1 evPost.eq_2 evPrep.eq_1 evPrep.eq_2 loopS.eq_1 loopS.eq_2 isPtr.eq_1 isPtr.eq_2 convPtr.eq_1 convPtr.eq_2 toUns.eq_1 fromUns.eq_1 nilAt.eq_1 nilAt.eq_2 nilAt.eq_3 nilAt.eq_4 sliceDataAt.eq_1 sliceDataAt.eq_2 eqPtr.eq_1 eqPtr.eq_2 eqPtr.eq_3 eqPtr.eq_4 eqPtr.eq_5 binPtr.eq_1 unstrK.eq_1 unstrK.eq_2 i64OfTV.eq_1 i64OfTV.eq_2 eunstr.eq_1 apAnn.eq_1 apAnn.eq_2 apAnn.eq_3 apAnn.eq_4 haveK.eq_1 haveK.eq_2 upK.eq_1 initU.eq_1 initU.eq_2 Ann.tag.eq_1 Ann.tag.eq_2 Ann.tag.eq_3 bump.eq_1 bump.eq_2 bumpO.eq_1 bumpO.eq_2 bumpO.eq_3 frzAnn.eq_1 frzAnn.eq_2 bumpZ.eq_1 gZ.eq_1 gZ.eq_2 erz.eq_1 erz.eq_2 erz.eq_3 eraseTV.eq_1 eraseTV.eq_2 eraseTV.eq_3 eraseTV.eq_4 eraseTV.eq_5 eraseTV.eq_6 eraseTV.eq_7 eraseTV.eq_8 eraseTV.eq_9 eraseTV.eq_10 eraseTV.eq_11 eraseL.eq_1 eraseL.eq_2 plainTV.eq_1 plainTV.eq_2 plainTV.eq_3 plainTV.eq_4 plainTV.eq_5 plainTV.eq_6 plainTV.eq_7 plainTV.eq_8 plainTV.eq_9 plainTV.eq_10 plainTV.eq_11 plainL.eq_1 plainL.eq_2 noK.eq_1 noK.eq_2 zOk.eq_1 zOk.eq_2 postZ.eq_1 postZ.eq_2 tkF.eq_1 tkF.eq_2 tkF.eq_3 TV.mapT.eq_1 TV.mapT.eq_2 TV.mapT.eq_3 TV.mapT.eq_4 TV.mapT.eq_5 TV.mapT.eq_6 TV.mapT.eq_7 TV.mapT.eq_8 TV.mapT.eq_9 TV.mapT.eq_10 TV.mapT.eq_11 mapTL.eq_1 mapTL.eq_2 mapO.eq_1 mapO.eq_2 Obj.mapT.eq_1 Obj.mapT.eq_2 Obj.mapT.eq_3 flatTV.eq_1 flatTV.eq_2 flatTV.eq_3 flatTV.eq_4 flatTV.eq_5 flatTV.eq_6 flatTV.eq_7 flatTV.eq_8 flatTV.eq_9 flatTV.eq_10 flatTV.eq_11 flatL.eq_1 flatL.eq_2 arrO.eq_1 arrO.eq_2 arrO.eq_3 arrO.eq_4 lowZ.eq_1 lowZ.eq_2 lowZ.eq_3 lowZ.eq_4 lowZ.eq_5 lowZ.eq_6 lowZ.eq_7 lowZ.eq_8 lowZ.eq_9 lowZ.eq_10 lowZ.eq_11 lowZL.eq_1 lowZL.eq_2 lowG.eq_1 lowG.eq_2 efinZ.eq_1 efinZ.eq_2 efinZ.eq_3 efin0.eq_1 efin0.eq_2 efin0.eq_3 noG.eq_1 noG.eq_2 TV.cn.eq_1 TV.cn.eq_2 TV.cn.eq_3 TV.cn.eq_4 TV.cn.eq_5 TV.cn.eq_6 TV.cn.eq_7 TV.cn.eq_8 TV.cn.eq_9 TV.cn.eq_10 TV.cn.eq_11 cnL.eq_1 cnL.eq_2 cnO.eq_1 cnO.eq_2 cnO.eq_3 cnO.eq_4 T.cn.eq_1 T.cn.eq_2 T.cn.eq_3 T.cn.eq_4 T.cn.eq_5 cnEs.eq_1 cnEs.eq_2 cnCs.eq_1 cnCs.eq_2 T.ann.eq_1 T.ann.eq_2 T.ann.eq_3 T.ann.eq_4 T.ann.eq_5 annEs.eq_1 annEs.eq_2 annCs.eq_1 annCs.eq_2 T.pre.eq_1 T.pre.eq_2 T.pre.eq_3 T.pre.eq_4 T.pre.eq_5 preEs.eq_1 preEs.eq_2 preCs.eq_1 preCs.eq_2 preA.eq_1 preA.eq_2 preA.eq_3 preA.eq_4 preA.eq_5 preA.eq_6
attribute [push_cast] and_self decide_true eq_self true_and strOf_bytesT List.set_cons_zero List.set_cons_succ List.replicate_zero List.replicate_succ Option.isNone_none Option.isNone_some if_true if_false Bool.false_eq_true List.getElem?_toArray List.length_map List.drop_length List.append_assoc List.length_append Int.toNat_zero bne_self_eq_false Bool.false_or Bool.true_or Bool.or_false Bool.or_true
attribute [push_cast] lk_nil lk_cons
  Option.map_some Option.map_none Option.bind_some Option.getD_some Option.getD_none cond_true cond_false List.getElem?_cons_zero List.getElem?_cons_succ List.length_cons List.length_nil List.drop_zero List.drop_succ_cons
  List.take_zero List.take_succ_cons List.take_nil List.drop_nil List.nil_append List.cons_append List.append_nil List.size_toArray List.map_cons List.map_nil List.all_cons List.all_nil
  Bool.not_false Bool.not_true Bool.and_true Bool.true_and Bool.and_self Bool.false_and Bool.and_false beq_self_eq_true List.toList_toArray
   Int.toNat_natCast true_and and_true and_self List.mem_cons eq_self
  Nat.zero_add Nat.add_zero Nat.sub_zero decide_true decide_false
end Go.Av
end
section
set_option linter.unusedVariables false
set_option linter.unusedSimpArgs false
set_option linter.unusedSectionVars false
namespace Go.Av
section
variable [Known] {P : Program} {X : Nat → Prop} {β0 : Places} {w0 w : World} {S0 S : Stable} {st : St} {a : Act} {β : Places}
end
end Go.Av
end
section
set_option linter.unusedVariables false
namespace Go.Av
def cmpE : List TV → Option TV
  | [.d (.s a), .d (.s b)] => some (.d (.i .i64 (Go.Lib.compareBytes a.data.toList b.data.toList)))
  | _ => none
def noescE : List TV → Option TV
  | [.ptr k o] => some (.ptr k o)
  | _ => none
theorem noesc_ext [Known] {P : Program} {g : FuncId} {fn : Func} (hf : P.funcs[g]? = some fn) (hname : (fn.name == "runtime.NumGoroutine") = false) (hb : fn.body.isNone = true) (hn : Extern.findNext fn = none)
    (he : Extern.find fn = some Extern.AbiNoEscape.same) : ExtOk P g noescE := by
  intro w S β tvs vs res h hl hr
  unfold noescE at h
  split at h
  · rename_i k o
    cases h
    have h0 := hr 0 (by simp) (by rw [← hl]; simp)
    have hv : ∃ v, vs = #[v] := by
      refine ⟨vs[0]'(by rw [← hl]; simp), ?_⟩
      apply Array.ext
      · simpa using hl.symm
      · intro i hi hj
        have : i = 0 := by simpa using hj
        subst this
        rfl
    obtain ⟨v, rfl⟩ := hv
    refine ⟨v, ?_, h0, fun p hk => hk.1⟩
    rw [run_callFunc_extern hf hname hb hn he]
    rfl
  · cases h
theorem cmp_ext [Known] {P : Program} {g : FuncId} {fn : Func} (hf : P.funcs[g]? = some fn) (hname : (fn.name == "runtime.NumGoroutine") = false) (hb : fn.body.isNone = true) (hn : Extern.findNext fn = none)
    (he : Extern.find fn = some Extern.BytealgCompare.compare) : ExtOk P g cmpE := by
  intro w S β tvs vs res h hl hr
  unfold cmpE at h
  split at h
  · rename_i a b
    cases h
    have h0 := hr 0 (by simp) (by rw [← hl]; simp)
    have h1 := hr 1 (by simp) (by rw [← hl]; simp)
    have e0 := rv_str h0
    have e1 := rv_str h1
    have hv : vs = #[.string a, .string b] := by
      apply Array.ext
      · simpa using hl.symm
      · intro i hi hj
        have : i < 2 := by simpa using hj
        match i, this with
        | 0, _ => simpa using e0
        | 1, _ => simpa using e1
    refine ⟨_, ?_, .d (.i .i64 _), fun _ _ => trivial⟩
    rw [hv, run_callFunc_extern hf hname hb hn he, Go.Lib.run_compareString]
    rfl
  · cases h
end Go.Av
end
section
set_option autoImplicit false
set_option linter.unusedVariables false
set_option linter.unusedSectionVars false
namespace Go.Av
open Go.Sort
def anx : Nat → List (List Nat) → List (List Nat)
  | _, [] => []
  | n, l :: r => ((List.range n).filter fun j => !l.contains j) :: anx (n + 1) r
section
variable [Known] {P : Program}
def sStr (l : List ByteArray) : List ByteArray := ((l.map fun s => s.data.toList).mergeSort fun x y => decide (x ≤ y)).map fun s => ⟨s.toArray⟩
theorem sStr_len (l : List ByteArray) : (sStr l).length = l.length := by simp [sStr, List.length_mergeSort]
end
end Go.Av
end
section
set_option linter.unusedVariables false
set_option autoImplicit false
namespace Go.Av
inductive Sh where
  | b
  | i (k : IntKind)
  | s
  | sl (m : List Sh)
inductive Is : T → Sh → Prop where
  | b (x : Bool) : Is (.b x) .b
  | i (k : IntKind) (n : Int) (h : (Lit.int k n).wf = true) : Is (.i k n) (.i k)
  | s (x : ByteArray) (h : x.size ≤ 140737488351232) : Is (.s x) .s
  | sl (es : List (List T)) (m : List Sh) (h : es.length ≤ 140737488351232) (hl : ∀ e ∈ es, e.length = m.length) (hs : ∀ e ∈ es, ∀ (j : Nat) (t : T) (sh : Sh), e[j]? = some t → m[j]? = some sh → Is t sh) : Is (.sl .any es) (.sl m)
section
variable {H : Type} {enc : TypeId × Value → H} {P : Program} {w : World} {spare : Nat → Bool} {held : Bool}
def inHeap (w : World) : Stable := ⟨fun b _ => b < w.heap.size, fun _ _ => False⟩
def Reads (w : World) (ts : List T) (shs : List Sh) (cs : List Value) : Prop :=
  ts.length = shs.length ∧ cs.length = shs.length ∧ ∀ (j : Nat) (t : T) (sh : Sh) (v : Value), ts[j]? = some t → shs[j]? = some sh → cs[j]? = some v → Is t sh ∧ Rep w (inHeap w) t v
theorem Reads.one {t : T} {sh : Sh} {v : Value} (h1 : Is t sh) (h2 : Rep w (inHeap w) t v) : Reads w [t] [sh] [v] := by
  refine ⟨rfl, rfl, ?_⟩
  intro j t' sh' v' a b c
  cases j with
  | zero => simp at a b c; subst a; subst b; subst c; exact ⟨h1, h2⟩
  | succ j => simp at a
theorem Reads.append {ts ts' : List T} {l l' : List Sh} {cs cs' : List Value} (h : Reads w ts l cs) (h' : Reads w ts' l' cs') : Reads w (ts ++ ts') (l ++ l') (cs ++ cs') := by
  obtain ⟨a1, a2, a3⟩ := h
  obtain ⟨b1, b2, b3⟩ := h'
  refine ⟨by simp [a1, b1], by simp [a2, b2], ?_⟩
  intro j t sh v x y z
  by_cases hj : j < l.length
  · rw [List.getElem?_append_left (by omega)] at x y z
    exact a3 j t sh v x y z
  · rw [List.getElem?_append_right (by omega)] at x y z
    rw [a1] at x
    rw [a2] at z
    exact b3 _ t sh v x y z
end
end Go.Av
end
section
set_option autoImplicit false
set_option linter.unusedVariables false
namespace Go.Av
def noPl : Places := fun _ => default
section
variable {H : Type} {enc : TypeId × Value → H} {P : Program} {w : World}
theorem trodAll_stays {W W' : World} (hl : laidOutB P = true) (hb : Go.RowKit.Below W.heap.size W W') : ∀ {ts : List TypeId} {vs : List Value} {ds : List (DataW H)} {ps : List MemPlace},
    (∀ t ∈ ts, P.readableRec t = true ∧ t < P.types.size) → DataW.TrodAll enc P W 0 (fun _ => true) true ts vs ds ps → DataW.TrodAll enc P W' 0 (fun b => decide (b < W.heap.size)) true ts vs ds ps
  | [], [], [], _, _, h => h
  | t :: ts, v :: vs, d :: ds, ps, hr, ⟨p, q, h1, h2, e⟩ => by
    have hlt : ∀ x ∈ p, x.block < W.heap.size := by
      obtain ⟨n, h1⟩ := h1
      exact DataW.trod_lt n _ _ _ h1
    obtain ⟨a, b⟩ := hr t (List.mem_cons_self ..)
    exact ⟨p, q, Go.RowKit.Below.trod hl a b h1 hb hlt, trodAll_stays hl hb (fun t' ht => hr t' (List.mem_cons_of_mem _ ht)) h2, e⟩
end
theorem Is.int {t : T} {k : IntKind} (h : Is t (.i k)) : ∃ n, t = .i k n := by cases h with | i _ n _ => exact ⟨n, rfl⟩
theorem Is.bool {t : T} (h : Is t .b) : ∃ n, t = .b n := by cases h with | b n => exact ⟨n, rfl⟩
end Go.Av
end
section
set_option linter.unusedSimpArgs false
namespace Go.Av
theorem get_map {α : Type} (f : α → List T) (l : List α) (i : Nat) (h : i < l.length) : (l.map f)[i]? = some (f l[i]) := by simp [h]
theorem wrap_succ {i : Nat} (h : i ≤ 1099511627776) : IntKind.i64.wrap ((i : Int) + 1) = (i : Int) + 1 := i64_in (by omega) (by omega)
theorem mk_ok {n : Nat} (k : Nat) (h : n ≤ 1048576) (hk : k ≤ 1024) : decide (0 ≤ (n : Int) ∧ k * n ≤ 281474976710656 ∧ n ≤ maxLen) = true := by
  have : k * n ≤ 1024 * 1048576 := Nat.mul_le_mul hk h
  simp [maxLen]; omega
mutual
def T.lim : T → Prop
  | .b _ => True
  | .i _ _ => True
  | .s x => x.size ≤ 140737488355328
  | .raw _ => True
  | .sl _ es => es.length ≤ 140737488355328 ∧ limEs es
def limEs : List (List T) → Prop
  | [] => True
  | e :: es => limCs e ∧ limEs es
def limCs : List T → Prop
  | [] => True
  | t :: ts => t.lim ∧ limCs ts
end
theorem limEs_map {α : Type} {f : α → List T} {l : List α} : limEs (l.map f) ↔ ∀ x ∈ l, limCs (f x) := by
  induction l with
  | nil => simp [limEs]
  | cons a l ih => simp [limEs, ih]
theorem dec_cons_t {α : Type} [DecidableEq α] {a b : α} {l m : List α} (h : a = b) : decide (a :: l = b :: m) = decide (l = m) := by subst h; simp
theorem dec_cons_f {α : Type} [DecidableEq α] {a b : α} {l m : List α} (h : ¬ a = b) : decide (a :: l = b :: m) = false := by simp [h]
def idxOf {α : Type} (p : α → Bool) (l : List α) : Int := if l.any p then (l.findIdx p : Nat) else -1
theorem idxOf_any {α : Type} (p : α → Bool) (l : List α) : decide (idxOf p l ≥ 0) = l.any p := by
  unfold idxOf
  cases l.any p <;> simp
def byC (b : UInt8) : List T := [.i .u8 b.toNat]
theorem not_any {α : Type} (p : α → Bool) (l : List α) : (!l.any fun x => !p x) = l.all p := by
  induction l with
  | nil => rfl
  | cons a l ih => simp only [List.any_cons, List.all_cons, Bool.not_or, Bool.not_not, ih]
theorem len_ok {n : Nat} (k : Nat) (h : n ≤ 1099511627776) (hk : k ≤ 127) : decide (n ≤ maxLen ∧ n * k ≤ 140737488355328) = true := by
  have : n * k ≤ 1099511627776 * 127 := Nat.mul_le_mul h hk
  have hm : maxLen = 9223372036854775807 := by decide
  refine decide_eq_true ⟨by omega, by omega⟩
theorem take_snoc {α : Type} (f : α → List T) {l : List α} {i : Nat} (h : i < l.length) : (l.take i).map f ++ [f l[i]] = (l.take (i + 1)).map f := by
  rw [List.take_succ_eq_append_getElem h, List.map_append, List.map_singleton]
theorem sums_mem {α : Type} {f : α → Nat} {l : List α} {n : Nat} (h : l.length + (l.map f).sum ≤ n) : l.length ≤ n ∧ ∀ x ∈ l, f x ≤ n := by
  refine ⟨by omega, ?_⟩
  have : ∀ l : List α, ∀ x ∈ l, f x ≤ (l.map f).sum := by
    intro l
    induction l with
    | nil => intro x h; cases h
    | cons a l ih =>
      intro x hx
      simp only [List.map_cons, List.sum_cons]
      rcases List.mem_cons.1 hx with rfl | hx
      · omega
      · have := ih x hx; omega
  intro x hx
  have := this l x hx
  omega
def sC (s : ByteArray) : List T := [.s s]
@[push_cast] theorem sC_all (l : List ByteArray) : ((l.map sC).all fun e => e.length == 1) = true := by simp [sC]
def szSs (l : List ByteArray) : Nat := l.length + (l.map ByteArray.size).sum
theorem szSs_mem {l : List ByteArray} {n : Nat} (h : szSs l ≤ n) : l.length ≤ n ∧ ∀ x ∈ l, x.size ≤ n := sums_mem h
structure V where
  k : Int
  n : Int
  s : ByteArray
  deriving DecidableEq
def vC (x : V) : List T := [.i .i64 x.k, .i .i64 x.n, .s x.s]
@[push_cast] theorem vC_all (l : List V) : ((l.map vC).all fun e => e.length == 3) = true := by simp [vC]
def szV (x : V) : Nat := x.s.size
def szVs (l : List V) : Nat := l.length + (l.map szV).sum
theorem szVs_mem {l : List V} {n : Nat} (h : szVs l ≤ n) : l.length ≤ n ∧ ∀ x ∈ l, szV x ≤ n := sums_mem h
structure C where
  row : List V
  n : Int
  deriving DecidableEq
def cC (x : C) : List T := [.sl .any (x.row.map vC), .i .i64 x.n]
@[push_cast] theorem cC_all (l : List C) : ((l.map cC).all fun e => e.length == 2) = true := by simp [cC]
def szC (x : C) : Nat := szVs x.row
def szCs (l : List C) : Nat := l.length + (l.map szC).sum
theorem szCs_mem {l : List C} {n : Nat} (h : szCs l ≤ n) : l.length ≤ n ∧ ∀ x ∈ l, szC x ≤ n := sums_mem h
structure B where
  w : Int
  rows : List C
  deriving DecidableEq
def bC (x : B) : List T := [.i .i64 x.w, .sl .any (x.rows.map cC)]
@[push_cast] theorem bC_all (l : List B) : ((l.map bC).all fun e => e.length == 2) = true := by simp [bC]
def szB (x : B) : Nat := szCs x.rows
structure R where
  name : ByteArray
  bag : B
  deriving DecidableEq
def rC (x : R) : List T := [.s x.name, .i .i64 x.bag.w, .sl .any (x.bag.rows.map cC)]
@[push_cast] theorem rC_all (l : List R) : ((l.map rC).all fun e => e.length == 3) = true := by simp [rC]
def szR (x : R) : Nat := x.name.size + szB x.bag
def szRs (l : List R) : Nat := l.length + (l.map szR).sum
theorem szRs_mem {l : List R} {n : Nat} (h : szRs l ≤ n) : l.length ≤ n ∧ ∀ x ∈ l, szR x ≤ n := sums_mem h
structure Sc where
  name : ByteArray
  cols : List ByteArray
  deriving DecidableEq
def scC (x : Sc) : List T := [.s x.name, .sl .any (x.cols.map sC)]
@[push_cast] theorem scC_all (l : List Sc) : ((l.map scC).all fun e => e.length == 2) = true := by simp [scC]
end Go.Av
end
section
set_option linter.unusedSimpArgs false
set_option linter.unusedVariables false
namespace Go.Av
def valueOk (v : V) : Bool :=
  if v.k = 0 then decide (v.n = 0) && decide (v.s = ⟨#[]⟩)
  else if v.k = 1 then decide (v.s = ⟨#[]⟩)
  else if v.k = 2 then (decide (0 ≤ v.n) && decide (v.n ≤ 1)) && decide (v.s = ⟨#[]⟩)
  else if v.k = 3 then decide (v.n = 0) && decide ((v.s.size : Int) ≤ 100)
  else false
def cmpI (a b : Int) : Int := if a < b then -1 else if a > b then 1 else 0
def cmpS (a b : ByteArray) : Int := Go.Lib.compareBytes a.data.toList b.data.toList
def cmpV (a b : V) : Int := if cmpI a.k b.k ≠ 0 then cmpI a.k b.k else if cmpI a.n b.n ≠ 0 then cmpI a.n b.n else cmpS a.s b.s
theorem cb_spec : ∀ (x y : List UInt8), Go.Lib.compareBytes x y = if Op.bytesLess x y then -1 else if x = y then 0 else 1
  | [], [] => by simp [Go.Lib.compareBytes, Op.bytesLess]
  | [], _ :: _ => by simp [Go.Lib.compareBytes, Op.bytesLess]
  | _ :: _, [] => by simp [Go.Lib.compareBytes, Op.bytesLess]
  | a :: x, b :: y => by
    have ih := cb_spec x y
    unfold Go.Lib.compareBytes Op.bytesLess
    by_cases h : a < b
    · simp [h]
    · by_cases h2 : b < a
      · have : a ≠ b := fun e => by subst e; exact h h2
        simp [h, h2, this]
      · have : a = b := UInt8.le_antisymm (UInt8.not_lt.1 h2) (UInt8.not_lt.1 h)
        subst this
        simp [h, ih]
theorem cmpS_spec (x y : ByteArray) : cmpS x y = if Op.bytesLess x.toList y.toList then -1 else if x = y then 0 else 1 := by
  rw [cmpS, cb_spec, ba_toList, ba_toList]
  have : (x.data.toList = y.data.toList) = (x = y) := propext ⟨fun e => ByteArray.ext (Array.toList_inj.1 e), fun e => by rw [e]⟩
  simp only [this]
def cmpRow : List V → List V → Int
  | [], [] => 0
  | [], _ :: _ => -1
  | _ :: _, [] => 1
  | a :: x, b :: y => if cmpV a b ≠ 0 then cmpV a b else cmpRow x y
def cmpL1 : List V → List V → Int
  | [], _ => 0
  | _ :: _, [] => 1
  | a :: x, b :: y => if cmpV a b ≠ 0 then cmpV a b else cmpL1 x y
def cmpL2 : List V → List V → Int
  | [], _ => 0
  | _ :: _, [] => 0
  | a :: x, b :: y => if cmpV a b ≠ 0 then cmpV a b else cmpL2 x y
theorem cmpRow_1 : ∀ a b : List V, cmpRow a b = if cmpL1 a b ≠ 0 then cmpL1 a b else if a.length < b.length then -1 else 0
  | [], [] => rfl
  | [], _ :: _ => by simp [cmpRow, cmpL1]
  | _ :: _, [] => by simp [cmpRow, cmpL1]
  | a :: x, b :: y => by
    have := cmpRow_1 x y
    simp only [cmpRow, cmpL1, List.length_cons]
    by_cases h : cmpV a b ≠ 0
    · simp [h]
    · simp only [h, if_false]
      rw [this]
      simp
theorem cmpRow_2 : ∀ a b : List V, cmpRow a b = if cmpL2 a b ≠ 0 then cmpL2 a b else if a.length < b.length then -1 else if b.length < a.length then 1 else 0
  | [], [] => rfl
  | [], _ :: _ => by simp [cmpRow, cmpL2]
  | _ :: _, [] => by simp [cmpRow, cmpL2]
  | a :: x, b :: y => by
    have := cmpRow_2 x y
    simp only [cmpRow, cmpL2, List.length_cons]
    by_cases h : cmpV a b ≠ 0
    · simp [h]
    · simp only [h, if_false]
      rw [this]
      simp
def okC (w : Int) (c : C) : Bool := ((((c.row.length : Int) == w) && c.row.all valueOk) && !(c.n == 0)) && (decide (-1000000000 ≤ c.n) && decide (c.n ≤ 1000000000))
def okPrev (c : C) : Option C → Bool
  | none => true
  | some d => !(decide (cmpRow d.row c.row ≥ 0))
def okRest (w : Int) (prev : Option C) : List C → Bool
  | [] => true
  | c :: l => (okC w c && okPrev c prev) && okRest w (some c) l
def okRows (w : Int) (l : List C) : Bool := okRest w none l
def bagOk (b : B) : Bool := (decide (0 ≤ b.w) && decide (b.w ≤ 12)) && (!(decide ((b.rows.length : Int) > 400)) && okRows b.w b.rows)
def prevAt (l : List C) : Nat → Option C
  | 0 => none
  | i + 1 => l[i]?
theorem okRest_at {w : Int} {l : List C} {i : Nat} (h : i < l.length) : okRest w (prevAt l i) (l.drop i) = ((okC w l[i] && okPrev l[i] (prevAt l i)) && okRest w (prevAt l (i + 1)) (l.drop (i + 1))) := by
  rw [List.drop_eq_getElem_cons h, okRest]
  simp [prevAt, h]
theorem bagOk_len {b : B} (h : bagOk b = true) : b.rows.length ≤ 400 ∧ ∀ c ∈ b.rows, c.row.length ≤ 12 ∧ -1000000000 ≤ c.n ∧ c.n ≤ 1000000000 := by
  simp only [bagOk, Bool.and_eq_true, decide_eq_true_eq, Bool.not_eq_true', decide_eq_false_iff_not, okRows] at h
  refine ⟨by omega, ?_⟩
  have key : ∀ (l : List C) (p : Option C), okRest b.w p l = true → ∀ c ∈ l, c.row.length ≤ 12 ∧ -1000000000 ≤ c.n ∧ c.n ≤ 1000000000 := by
    intro l
    induction l with
    | nil => intro p _ c hc; cases hc
    | cons a l ih =>
      intro p hp c hc
      simp only [okRest, okC, Bool.and_eq_true, decide_eq_true_eq, beq_iff_eq] at hp
      rcases List.mem_cons.1 hc with rfl | hc
      · exact ⟨by omega, hp.1.1.2.1, hp.1.1.2.2⟩
      · exact ih _ hp.2 c hc
  exact key _ _ h.2.2
end Go.Av
end
section
set_option linter.unusedVariables false
namespace Go.Av
theorem take_snocI {α : Type} (f : Nat → α → List T) {l : List α} {i : Nat} (h : i < l.length) : (l.take i).mapIdx f ++ [f i l[i]] = (l.take (i + 1)).mapIdx f := by
  have hl : (l.take i).length = i := by simp; omega
  rw [← List.take_append_getElem h, List.mapIdx_append, hl]
  simp
structure Nm (p : Tok) (L : List (Option Tok)) : Prop where
  some : ∀ x ∈ L, ∃ q, x = some q ∧ p <+: q
  nd : L.Nodup
theorem Nm.nil (p : Tok) : Nm p [] := ⟨fun x hx => (by cases hx), List.nodup_nil⟩
theorem Nm.weak {p r : Tok} {L : List (Option Tok)} (h : Nm (p ++ r) L) : Nm p L := ⟨fun x hx => let ⟨q, h1, h2⟩ := h.some x hx; ⟨q, h1, (List.prefix_append p r).trans h2⟩, h.nd⟩
structure NmI (p : Tok) (i : Nat) (L : List (Option Tok)) : Prop where
  some : ∀ x ∈ L, ∃ k q, i ≤ k ∧ x = some q ∧ p ++ [k] <+: q
  nd : L.Nodup
theorem NmI.nil (p : Tok) (i : Nat) : NmI p i [] := ⟨fun x hx => (by cases hx), List.nodup_nil⟩
theorem NmI.cons {p : Tok} {i : Nat} {L M : List (Option Tok)} (h : Nm (p ++ [i]) L) (k : NmI p (i + 1) M) : NmI p i (L ++ M) := by
  refine ⟨fun x hx => ?_, List.nodup_append.2 ⟨h.nd, k.nd, fun a ha b hb e => ?_⟩⟩
  · rcases List.mem_append.1 hx with hx | hx
    · obtain ⟨q, h1, h2⟩ := h.some x hx; exact ⟨i, q, Nat.le_refl _, h1, h2⟩
    · obtain ⟨j, q, h0, h1, h2⟩ := k.some x hx; exact ⟨j, q, by omega, h1, h2⟩
  · obtain ⟨q, h1, h2⟩ := h.some a ha
    obtain ⟨j, q', g0, g1, g2⟩ := k.some b hb
    subst e
    rw [h1] at g1
    cases g1
    exact not_both (r := []) (q := []) (show i ≠ j by omega) (by rw [List.append_nil]; exact h2) (by rw [List.append_nil]; exact g2)
theorem NmI.nm {p : Tok} {i : Nat} {L : List (Option Tok)} (h : NmI p i L) : Nm p L := ⟨fun x hx => let ⟨_, q, _, h1, h2⟩ := h.some x hx; ⟨q, h1, pre_trans h2⟩, h.nd⟩
theorem NmI.top {p : Tok} {L : List (Option Tok)} (h : NmI p 0 L) : Nm p (Option.some p :: L) := by
  refine ⟨fun x hx => ?_, List.nodup_cons.2 ⟨fun hm => ?_, h.nd⟩⟩
  · rcases List.mem_cons.1 hx with rfl | hx
    · exact ⟨p, rfl, List.prefix_refl _⟩
    · exact h.nm.some x hx
  · obtain ⟨k, q, _, h1, h2⟩ := h.some _ hm
    cases h1
    have := h2.length_le
    simp at this
    omega
theorem cn_nm : ∀ n : Nat, (∀ (t : T) p, SizeOf.sizeOf t < n → Nm p (tkT (t.cn p))) ∧ (∀ (l : List T) p j, SizeOf.sizeOf l < n → NmI p j (tkCs (cnCs p j l))) ∧ (∀ (l : List (List T)) p j, SizeOf.sizeOf l < n → NmI p j (tkEs (cnEs p j l))) := by
  intro n
  induction n with
  | zero => exact ⟨fun _ _ h => absurd h (Nat.not_lt_zero _), fun _ _ _ h => absurd h (Nat.not_lt_zero _), fun _ _ _ h => absurd h (Nat.not_lt_zero _)⟩
  | succ n ih =>
    refine ⟨fun t p h => ?_, fun l p j h => ?_, fun l p j h => ?_⟩
    · cases t with
      | sl A es => simp at h; exact (ih.2.2 es p 0 (by omega)).top
      | _ => exact .nil _
    · cases l with
      | nil => exact .nil _ _
      | cons t l => simp at h; exact .cons (ih.1 t _ (by omega)) (ih.2.1 l p (j + 1) (by omega))
    · cases l with
      | nil => exact .nil _ _
      | cons t l => simp at h; exact .cons (ih.2.1 t _ 0 (by omega)).nm (ih.2.2 l p (j + 1) (by omega))
theorem tk_cn (t : T) (p : Tok) : Nm p (tkT (t.cn p)) := (cn_nm (SizeOf.sizeOf t + 1)).1 t p (by omega)
theorem tkEs_mapIdx {α : Type} (f : Nat → α → List T) : ∀ (l : List α) (i : Nat), (∀ k x, Nm [k] (tkCs (f k x))) → NmI [] i (tkEs (l.mapIdx fun k x => f (i + k) x))
  | [], i, _ => .nil _ _
  | x :: l, i, h => by
    rw [List.mapIdx_cons, tkEs]
    refine .cons (h i x) ?_
    have := tkEs_mapIdx f l (i + 1) h
    simpa only [Nat.add_assoc, Nat.add_comm 1, Function.comp_def] using this
theorem tk_idx {α : Type} (f : Nat → α → List T) (l : List α) (h : ∀ k x, Nm [k] (tkCs (f k x))) : NmI [] 0 (tkEs (l.mapIdx f)) := by
  simpa using tkEs_mapIdx f l 0 h
theorem NmI.lt {α : Type} (f : Nat → α → List T) (l : List α) (h : ∀ k x, Nm [k] (tkCs (f k x))) : ∀ x ∈ tkEs (l.mapIdx f), ∃ k r, k < l.length ∧ x = Option.some (k :: r) := by
  have go : ∀ (l : List α) (i : Nat), ∀ x ∈ tkEs (l.mapIdx fun k x => f (i + k) x), ∃ k r, k < i + l.length ∧ x = Option.some (k :: r) := by
    intro l
    induction l with
    | nil => intro i x hx; cases hx
    | cons y l ih =>
      intro i x hx
      rw [List.mapIdx_cons, tkEs] at hx
      rcases List.mem_append.1 hx with hx | hx
      · obtain ⟨q, h1, u, rfl⟩ := (h i y).some x hx
        exact ⟨i, u, by simp, h1⟩
      · have e : (fun k x => f (i + (k + 1)) x) = fun k x => f (i + 1 + k) x := by funext k x; rw [show i + (k + 1) = i + 1 + k by omega]
        obtain ⟨k, r, h1, h2⟩ := ih (i + 1) x (by rw [← e]; exact hx)
        exact ⟨k, r, by simp; omega, h2⟩
  simpa using go l 0
@[push_cast] theorem canOk_b (x : Bool) : canOk (.d (.b x)) [] = True := by simp [canOk, tkTV, tkT, tkO, flatTV, arrO, keysOf]
@[push_cast] theorem canOk_i (k : IntKind) (x : Int) : canOk (.d (.i k x)) [] = True := by simp [canOk, tkTV, tkT, tkO, flatTV, arrO, keysOf]
@[push_cast] theorem canOk_s (x : ByteArray) : canOk (.d (.s x)) [] = True := by simp [canOk, tkTV, tkT, tkO, flatTV, arrO, keysOf]
theorem canOk_top {α : Type} (f : Nat → α → List T) (l : List α) (h : ∀ k x, Nm [k] (tkCs (f k x))) : canOk (.d (.sl (.tok [l.length]) (l.mapIdx f))) [] := by
  have h1 := tk_idx f l h
  have h2 := NmI.lt f l h
  refine ⟨⟨?_, ?_⟩, rfl, rfl, List.nodup_nil⟩
  · intro hn
    simp only [tkTV, tkT, annTok, tkO, List.append_nil, List.cons_append, List.nil_append, List.mem_cons] at hn
    rcases hn with hn | hn
    · cases hn
    · obtain ⟨_, _, _, h3⟩ := h2 _ hn; cases h3
  · simp only [tkTV, tkT, annTok, tkO, List.append_nil, List.cons_append, List.nil_append]
    refine List.nodup_cons.2 ⟨fun hm => ?_, h1.nd⟩
    obtain ⟨k, r, h3, h4⟩ := h2 _ hm
    cases h4
    omega
mutual
theorem T.cn_er (p : Tok) : ∀ t : T, t.erase.cn p = t.cn p
  | .b _ => rfl
  | .i _ _ => rfl
  | .s _ => rfl
  | .raw _ => rfl
  | .sl A es => by simp only [T.ann, T.cn, cnEs_er p es 0]
theorem cnEs_er (p : Tok) : ∀ (es : List (List T)) (i : Nat), cnEs p i (annEs .any es) = cnEs p i es
  | [], _ => rfl
  | e :: es, i => by simp only [annEs, cnEs, cnCs_er (p ++ [i]) e 0, cnEs_er p es (i + 1)]
theorem cnCs_er (p : Tok) : ∀ (es : List T) (i : Nat), cnCs p i (annCs .any es) = cnCs p i es
  | [], _ => rfl
  | e :: es, i => by simp only [annCs, cnCs, T.cn_er (p ++ [i]) e, cnCs_er p es (i + 1)]
end
theorem cnEs_same {p : Tok} {i : Nat} {es es' : List (List T)} (h : annEs .any es = annEs .any es') : cnEs p i es = cnEs p i es' := by rw [← cnEs_er, h, cnEs_er]
mutual
theorem T.er_cn (p : Tok) : ∀ t : T, (t.cn p).erase = t.erase
  | .b _ => rfl
  | .i _ _ => rfl
  | .s _ => rfl
  | .raw _ => rfl
  | .sl A es => by simp only [T.ann, T.cn, er_cnEs p es 0]
@[push_cast] theorem er_cnEs (p : Tok) : ∀ (es : List (List T)) (i : Nat), annEs .any (cnEs p i es) = annEs .any es
  | [], _ => rfl
  | e :: es, i => by simp only [annEs, cnEs, er_cnCs (p ++ [i]) e 0, er_cnEs p es (i + 1)]
theorem er_cnCs (p : Tok) : ∀ (es : List T) (i : Nat), annCs .any (cnCs p i es) = annCs .any es
  | [], _ => rfl
  | e :: es, i => by simp only [annCs, cnCs, T.er_cn (p ++ [i]) e, er_cnCs p es (i + 1)]
end
mutual
theorem T.pre_cn (n : Nat) (p : Tok) : ∀ t : T, (t.cn p).pre n = t.cn (n :: p)
  | .b _ => rfl
  | .i _ _ => rfl
  | .s _ => rfl
  | .raw _ => rfl
  | .sl A es => by simp only [T.pre, T.cn, pre_cnEs n p es 0, preA]
@[push_cast] theorem pre_cnEs (n : Nat) (p : Tok) : ∀ (es : List (List T)) (i : Nat), preEs n (cnEs p i es) = cnEs (n :: p) i es
  | [], _ => rfl
  | e :: es, i => by simp only [preEs, cnEs, pre_cnCs n (p ++ [i]) e 0, pre_cnEs n p es (i + 1), List.cons_append]
theorem pre_cnCs (n : Nat) (p : Tok) : ∀ (es : List T) (i : Nat), preCs n (cnCs p i es) = cnCs (n :: p) i es
  | [], _ => rfl
  | e :: es, i => by simp only [preCs, cnCs, T.pre_cn n (p ++ [i]) e, pre_cnCs n p es (i + 1), List.cons_append]
end
@[push_cast] theorem map_tkF_some (n : Nat) (a : Bool) (es : List (List T)) : es.map (fun e => e.map (tkF true (some (n, a)))) = preEs n es := by
  rw [preEs_eq]; rfl
@[push_cast] theorem map_tkF_none (es : List (List T)) : es.map (fun e => e.map (tkF true none)) = annEs .any es := by
  rw [annEs_eq]; rfl
@[push_cast] theorem cn_cnEs (p q : Tok) (es : List (List T)) (i j : Nat) : cnEs p i (cnEs q j es) = cnEs p i es := cnEs_same (er_cnEs q es j)
@[push_cast] theorem snoc1 (a b : Nat) : [a] ++ [b] = [a, b] := rfl
@[push_cast] theorem snoc2 (a b c : Nat) : [a, b] ++ [c] = [a, b, c] := rfl
@[push_cast] theorem snoc3 (a b c d : Nat) : [a, b, c] ++ [d] = [a, b, c, d] := rfl
@[push_cast] theorem snoc4 (a b c d e : Nat) : [a, b, c, d] ++ [e] = [a, b, c, d, e] := rfl
theorem annEs_map {α : Type} {f g : α → List T} (h : ∀ x, annCs .any (f x) = g x) (l : List α) : annEs .any (l.map f) = l.map g := by
  rw [annEs_eq, List.map_map]
  exact List.map_congr_left fun x _ => by rw [← h x, annCs_eq]; rfl
theorem annEs_mapIdx {α : Type} {f : Nat → α → List T} {g : α → List T} (h : ∀ i x, annCs .any (f i x) = g x) (l : List α) : annEs .any (l.mapIdx f) = l.map g := by
  rw [annEs_eq]
  apply List.ext_getElem
  · simp
  · intro i h1 h2
    simp only [List.getElem_mapIdx, List.getElem_map]
    rw [← h i, annCs_eq]
@[push_cast] theorem cnEs_length (p : Tok) (i : Nat) (es : List (List T)) : (cnEs p i es).length = es.length := cnEs_len p es i
@[push_cast] theorem er_vC (l : List V) : annEs .any (l.map vC) = l.map vC := annEs_map (fun _ => rfl) l
@[push_cast] theorem cn_vC (l : List V) (p : Tok) (i : Nat) : cnEs p i (l.map vC) = l.map vC := by
  rw [cnEs_eq]
  apply List.ext_getElem
  · simp
  · intro j h1 h2
    simp [vC, cnCs, T.cn]
@[push_cast] theorem pre_vC (n : Nat) (l : List V) : preEs n (l.map vC) = l.map vC := by
  rw [preEs_eq, List.map_map]
  rfl
@[push_cast] theorem er_cC (l : List C) : annEs .any (l.map cC) = l.map cC := annEs_map (fun x => by simp only [cC, annCs, T.ann, er_vC]) l
@[push_cast] theorem er_rC (l : List R) : annEs .any (l.map rC) = l.map rC := annEs_map (fun x => by simp only [rC, annCs, T.ann, er_cC]) l
@[push_cast] theorem tk_vC (l : List V) : tkEs (l.map vC) = [] := by
  induction l with
  | nil => rfl
  | cons x l ih => simp only [List.map_cons, tkEs, ih]; rfl
end Go.Av
end
section
set_option linter.unusedVariables false
set_option linter.unusedSectionVars false
namespace Go.Av
mutual
def ageTV : TV → TV
  | .unk => .unk
  | .d t => .d (t.ann (.tok []))
  | .nl => .nl
  | .agg cs => .agg (ageL cs)
  | .tup cs => .tup (ageL cs)
  | .ptr k o => .ptr k o
  | .own k => .own k
  | .ap k i f => .ap k i f
  | .rp _ => .unk
  | .clo f cap => .clo f (ageL cap)
  | .fn _ => .unk
def ageL : List TV → List TV
  | [] => []
  | x :: xs => ageTV x :: ageL xs
end
def ageT : List (Nat × TV) → List (Nat × TV)
  | [] => []
  | (i, x) :: l => (i, ageTV x) :: ageT l
def ageO : Objs → Objs
  | [] => []
  | (k, .box cs ty) :: l => (k, .box (ageL cs) ty) :: ageO l
  | (_, .arr _ _ _) :: l => ageO l
  | (_, .fz _ _ _) :: l => ageO l
def ageSt (st : St) : St := { t := ageT st.t, o := ageO st.o, ks := st.ks, n := st.n, sz := st.sz, u := st.u, g := st.g }
def boxesB : Objs → Bool
  | [] => true
  | (_, .box _ _) :: l => boxesB l
  | (_, .arr _ _ _) :: _ => false
  | (_, .fz _ _ _) :: _ => false
theorem ageL_eq (l : List TV) : ageL l = l.map ageTV := by
  induction l with
  | nil => rfl
  | cons a l ih => simp [ageL, ih]
section
variable [Known] {P : Program} {X : Nat → Prop} {β0 : Places} {w0 w w' : World} {S0 S S' : Stable} {st st' : St} {a : Act} {β β' : Places}
theorem Rep.age {t : T} {v : Value} (h : Rep w S t v) : Rep w ⟨S.c, fun q b => q = [] ∧ ∃ o, S b o⟩ (t.ann (.tok [])) v := by
  induction h with
  | b x => exact .b x
  | i k n => exact .i k n
  | s x => exact .s x
  | raw v h => exact .raw v h
  | nil A a cap => exact .nil _ a cap
  | sl B es b off m cap vs hb ht h0 hm hcap hs hc hr ih =>
    have e1 : T.ann (.tok []) (.sl B es) = .sl (.tok []) (es.map (·.map (T.ann (.tok [])))) := by simp [T.ann, annEs_eq]
    rw [e1]
    have e2 : es.length = (es.map (·.map (T.ann (.tok [])))).length := by simp
    by_cases hn : es = []
    · subst hn; exact .nil _ _ _
    · have hp : 0 < es.length := List.length_pos_iff.2 hn
      have he : 0 < es[0].length := by rw [hm _ (List.getElem_mem _)]; exact h0
      rw [e2]
      refine .sl _ _ b off m cap vs trivial (fun q hq => ?_) h0 ?_ (by simpa using hcap) ?_ ?_ ?_
      · cases hq; exact ⟨⟨rfl, _, hs 0 0 hp he⟩, fun h => absurd rfl h⟩
      · intro e he
        obtain ⟨e', he', rfl⟩ := List.mem_map.1 he
        simpa using hm e' he'
      · intro i j hi hj
        exact hs i j (by simpa using hi) (by simpa using hj)
      · intro i j hi hj
        exact hc i j (by simpa using hi) (by simpa using hj)
      · intro i j hi hj
        have := ih i j (by simpa using hi) (by simpa using hj)
        simpa using this
theorem RV.age {tv : TV} {v : Value} (h : RV P w S β tv v) : RV P w ⟨S.c, fun q b => q = [] ∧ ∃ o, S b o⟩ β (ageTV tv) v := by
  induction h with
  | unk v => exact .unk v
  | d h => exact .d h.age
  | nl a => exact .nl a
  | @agg cs vs hl h ih =>
    rw [ageTV, ageL_eq]
    exact .agg (by simpa using hl) fun i hi hj => by rw [List.getElem_map]; exact ih i (by simpa using hi) hj
  | @tup cs vs hl h ih =>
    rw [ageTV, ageL_eq]
    exact .tup (by simpa using hl) fun i hi hj => by rw [List.getElem_map]; exact ih i (by simpa using hi) hj
  | own k ad had => exact .own k ad had
  | ptr k off => exact .ptr k off
  | ap k i g => exact .ap k i g
  | rp hs hc hr => exact .unk _
  | @clo f cap vs hl h ih =>
    rw [ageTV, ageL_eq]
    exact .clo (by simpa using hl) fun i hi hj => by rw [List.getElem_map]; exact ih i (by simpa using hi) hj
  | fn h => exact .unk _
theorem age_ok {p : Nat → Prop} : ∀ {tv : TV}, tv.ok p → (ageTV tv).ok p := by
  have key : ∀ n : Nat, ∀ tv : TV, SizeOf.sizeOf tv < n → tv.ok p → (ageTV tv).ok p := by
    intro n
    induction n with
    | zero => exact fun t h => absurd h (Nat.not_lt_zero _)
    | succ n ih =>
      intro tv h ho
      have many : ∀ cs : List TV, (∀ y ∈ cs, SizeOf.sizeOf y < n) → okL p cs → okL p (ageL cs) := fun cs h1 h2 => by
        rw [ageL_eq]
        rw [okL_iff] at h2 ⊢
        intro x hx
        obtain ⟨y, hy, rfl⟩ := List.mem_map.1 hx
        exact ih y (h1 y hy) (h2 y hy)
      cases tv with
      | agg cs => exact many cs (fun y hy => by have := List.sizeOf_lt_of_mem hy; simp at h; omega) ho
      | tup cs => exact many cs (fun y hy => by have := List.sizeOf_lt_of_mem hy; simp at h; omega) ho
      | clo f cs => exact many cs (fun y hy => by have := List.sizeOf_lt_of_mem hy; simp at h; omega) ho
      | rp cs => trivial
      | fn g => trivial
      | _ => exact ho
  exact fun {tv} => key _ tv (Nat.lt_succ_self _)
theorem ageT_lk : ∀ {l : List (Nat × TV)} {i : Nat} {x : TV}, lk i (ageT l) = some x → ∃ y, lk i l = some y ∧ x = ageTV y
  | [], _, _, h => by cases h
  | (j, y) :: l, i, x, h => by
    by_cases hij : i = j
    · subst hij; rw [ageT, lk_cons_eq] at h; cases h; exact ⟨y, lk_cons_eq _ _ _, rfl⟩
    · rw [ageT, lk_cons_ne _ _ hij] at h
      obtain ⟨z, h1, h2⟩ := ageT_lk h
      exact ⟨z, by rw [lk_cons_ne _ _ hij]; exact h1, h2⟩
theorem ageO_lk : ∀ {l : Objs} {i : Nat} {x : Obj}, boxesB l = true → lk i (ageO l) = some x → ∃ cs ty, lk i l = some (.box cs ty) ∧ x = .box (ageL cs) ty
  | [], _, _, _, h => by cases h
  | (j, .box cs ty) :: l, i, x, hb, h => by
    simp only [boxesB] at hb
    by_cases hij : i = j
    · subst hij; rw [ageO, lk_cons_eq] at h; cases h; exact ⟨cs, ty, lk_cons_eq _ _ _, rfl⟩
    · rw [ageO, lk_cons_ne _ _ hij] at h
      obtain ⟨cs', ty', h1, h2⟩ := ageO_lk hb h
      exact ⟨cs', ty', by rw [lk_cons_ne _ _ hij]; exact h1, h2⟩
  | (j, .arr _ _ _) :: l, i, x, hb, h => by cases hb
  | (j, .fz _ _ _) :: l, i, x, hb, h => by cases hb
theorem Sim.age (h : Sim P X β0 w0 S0 st a w S β) (hb : boxesB st.o = true) {n : Nat} (hg : st.g = some (n, true)) : SimE P X β0 w0 S0 (ageSt st) a w := by
  have hkeep : KOk w ⟨S.c, fun q b => q = [] ∧ ∃ o, S b o⟩ := fun b o v hv => h.kn b o v hv
  refine ⟨⟨S.c, fun q b => q = [] ∧ ∃ o, S b o⟩, β, hkeep, h.dfr, h.size, ?_, ?_, ?_, ?_, ?_, h.bnd, h.sub, h.new, h.below, h.n, h.fix, ?_, ?_⟩
  · intro i tv hl
    obtain ⟨x, h1, rfl⟩ := ageT_lk hl
    obtain ⟨v, hv, hr, ho⟩ := h.tmps i x h1
    exact ⟨v, hv, hr.age, age_ok ho⟩
  · intro k ob hl
    obtain ⟨cs, ty, h1, rfl⟩ := ageO_lk hb hl
    obtain ⟨g1, g2, g3⟩ := h.objs k _ h1
    have g2 : okL (· ∈ st.ks) cs := g2
    refine ⟨?_, ?_, g3⟩
    · cases g1 with
      | box hv hbb hll hr ht =>
        rw [ageL_eq]
        exact .box hv hbb (by simpa using hll) (fun i hi hj => by rw [List.getElem_map]; exact (hr i (by simpa using hi) hj).age) ht
    · show okL _ _
      rw [ageL_eq, okL_iff]
      intro x hx
      obtain ⟨y, hy, rfl⟩ := List.mem_map.1 hx
      exact age_ok (okL_iff.1 g2 y hy)
  · intro k ob hl
    obtain ⟨cs, ty, h1, rfl⟩ := ageO_lk hb hl
    exact fun x hx => h.own k (.box cs ty) h1 x hx
  · intro k k' ob ob' hl hl'
    obtain ⟨cs, ty, h1, rfl⟩ := ageO_lk hb hl
    obtain ⟨cs', ty', h1', rfl⟩ := ageO_lk hb hl'
    exact h.inj k k' _ _ h1 h1'
  · intro k ob hl hw
    obtain ⟨cs, ty, h1, rfl⟩ := ageO_lk hb hl
    exact h.sep k _ h1 rfl
  · intro b z hz
    obtain ⟨a1, a2, a3, a4⟩ := h.gh b z hz
    refine ⟨a1, a2, ?_, a4⟩
    intro k ob hl
    obtain ⟨cs, ty, h1, rfl⟩ := ageO_lk hb hl
    exact a3 k _ h1
  · have htk := h.tk
    rw [show (ageSt st).g = st.g from rfl, hg]
    rw [hg] at htk
    refine ⟨htk.1, fun b hb => ⟨rfl, hb.2, fun q hq => hq.1⟩, ?_, ?_, ?_⟩
    · exact fun q b hq => absurd hq.2.1 hq.1
    · exact fun q b b' hq => absurd hq.2.1 hq.1
    · exact fun q q' b hq => absurd hq.2.1 hq.1
def Wp (P : Program) (X : Nat → Prop) (β0 : Places) (w0 : World) (S0 : Stable) (Q : Exit → Act → World → Prop) (c : Code) (st : St) : Prop := ∀ a w, SimE P X β0 w0 S0 st a w → c.wp P Q a w
variable {Q : Exit → Act → World → Prop}
theorem Wp.seq {C : Cfg} (hE : ∀ g h, C.E g = some h → ExtOk C.P g h) (hO : ∀ g h ins args r, C.O g = some h → h ins args = some r → m1 C g ins args r) {g : FuncId} {c1 rest : Code} {s : St}
    (h : evB C g c1 ⟨⟩ st = some (.normal, s)) (k : Wp C.P X β0 w0 S0 Q rest s) : Wp C.P X β0 w0 S0 Q (.seq c1 rest) st := by
  intro a w hs
  refine wp_seq (wp_mono ((ev_all C hE hO).2.1 g c1 st _ h X β0 w0 S0 a w hs) ?_)
  rintro e a' w' ⟨st', ⟨rfl, rfl⟩, hs'⟩
  exact k a' w' hs'
theorem Wp.age {c : Code} (hb : boxesB st.o = true) {n : Nat} (hg : st.g = some (n, true)) (k : Wp P X β0 w0 S0 Q c (ageSt st)) : Wp P X β0 w0 S0 Q c st :=
  fun a w ⟨_, _, h⟩ => k a w (h.age hb hg)
theorem Wp.last {C : Cfg} (hE : ∀ g h, C.E g = some h → ExtOk C.P g h) (hO : ∀ g h ins args r, C.O g = some h → h ins args = some r → m1 C g ins args r) {g : FuncId} {c : Code} {s : St}
    (h : evB C g c ⟨⟩ st = some (.ret, s)) (k : ∀ a w, SimE C.P X β0 w0 S0 s a w → Q .ret a w) : Wp C.P X β0 w0 S0 Q c st := by
  intro a w hs
  refine wp_mono ((ev_all C hE hO).2.1 g c st _ h X β0 w0 S0 a w hs) ?_
  rintro e a' w' ⟨st', ⟨rfl, rfl⟩, hs'⟩
  exact k a' w' hs'
def initL (args : List TV) (sz : Nat) : St := { t := argT 0 args, o := [], ks := [], n := 0, sz := sz, u := noU, g := some (0, true) }
theorem law_true {f : FuncId} {fn : Func} {c : Code} {args : List TV} {vs : Array Value} {t : Nat} (hf : P.funcs[f]? = some fn) (hb : fn.body = some c) (hz : args.length ≤ fn.ntmps) (hres : fn.results = #[.tmp t])
    (hkn : KOk w (inHeap w)) (hl : args.length = vs.size) (hrv : ∀ i (hi : i < args.length) (hj : i < vs.size), RV P w (inHeap w) noPl args[i] vs[i]) (hok : okL (· ∈ keysOf []) args)
    (h : ∀ (Q : Exit → Act → World → Prop), (∀ s, evc s (.tmp t) = .d (.b true) → ∀ a w', SimE P (fun _ => False) noPl w (inHeap w) s a w' → Q .ret a w') → Wp P (fun _ => False) noPl w (inHeap w) Q c (initL args fn.ntmps)) :
    Calls P f vs w fun e w' => e = .returned (.bool true) ∧ Go.RowKit.Below w.heap.size w w' := by
  refine calls_of_wp hf hb ?_
  have hs : Sim P (fun _ => False) noPl w (inHeap w) (initL args fn.ntmps) { tmps := vs ++ Array.replicate (fn.ntmps - vs.size) undef, defers := [] } w (inHeap w) noPl := by
    refine ⟨hkn, rfl, by simp [initL]; omega, ?_, ?_, ?_, ?_, ?_, fun _ _ h => h, fun _ _ h => h, fun _ _ h => .inl h, BelowX.refl _ _ _, Nat.zero_le _, fun _ _ => rfl, ?_, ⟨fun _ h => h, fun _ _ h => h⟩, fun _ h => h.elim, ?_, ?_, ?_⟩
    · intro i tv hlk
      obtain ⟨_, h2⟩ := lk_argT args 0 i tv hlk
      rw [Nat.sub_zero] at h2
      obtain ⟨hi, rfl⟩ := List.getElem?_eq_some_iff.1 h2
      have hi2 : i < vs.size := by omega
      refine ⟨vs[i], ?_, hrv i hi hi2, okL_get hok i hi⟩
      rw [Array.getElem?_append_left hi2]
      exact Array.getElem?_eq_getElem hi2
    · intro k ob hk; cases hk
    · intro k ob hk; cases hk
    · intro k k' ob ob' hk; cases hk
    · intro k ob hk; cases hk
    · intro b z hz; cases hz
    · exact fun q b hq => hq.2.elim
    · exact fun q b b' hq => hq.2.elim
    · exact fun q q' b hq => hq.2.elim
  refine h _ ?_ _ w ⟨_, _, hs⟩
  rintro s hsv a' w' ⟨S', β', hs'⟩
  have hv := (evc_sound hs' (.tmp t)).1
  rw [hsv] at hv
  have hv := rv_bool hv
  refine ⟨hs'.dfr, .bool true, ?_, rfl, hs'.below.os, hs'.below.tape, hs'.below.output, hs'.below.size, fun k hk => hs'.below.block k hk (fun h => h)⟩
  rw [results_eq, hres]
  have hv' : a'.tmps.getD t undef = .bool true := hv
  simp [resOne, hv']
end
end Go.Av
end
section
set_option linter.unusedVariables false
set_option linter.unusedSectionVars false
namespace Go.Av
mutual
def mkT (mt : Int → ByteArray) : T → Int → T × Int
  | .i _ _, k => (.i .i64 k, IntKind.i64.wrap (k + 1))
  | .s _, k => (.s (mt k), IntKind.i64.wrap (k + 1))
  | .b x, k => (.b x, k)
  | .raw v, k => (.raw v, k)
  | .sl A es, k => (.sl A (mkEs mt es k).1, (mkEs mt es k).2)
def mkEs (mt : Int → ByteArray) : List (List T) → Int → List (List T) × Int
  | [], k => ([], k)
  | e :: es, k => ((mkCs mt e k).1 :: (mkEs mt es (mkCs mt e k).2).1, (mkEs mt es (mkCs mt e k).2).2)
def mkCs (mt : Int → ByteArray) : List T → Int → List T × Int
  | [], k => ([], k)
  | t :: ts, k => ((mkT mt t k).1 :: (mkCs mt ts (mkT mt t k).2).1, (mkCs mt ts (mkT mt t k).2).2)
end
theorem mkEs_append (mt : Int → ByteArray) : ∀ (l r : List (List T)) (k : Int), mkEs mt (l ++ r) k = ((mkEs mt l k).1 ++ (mkEs mt r (mkEs mt l k).2).1, (mkEs mt r (mkEs mt l k).2).2)
  | [], r, k => rfl
  | e :: l, r, k => by simp only [List.cons_append, mkEs, mkEs_append mt l r]
theorem mkEs_len (mt : Int → ByteArray) : ∀ (l : List (List T)) (k : Int), (mkEs mt l k).1.length = l.length
  | [], k => rfl
  | e :: l, k => by simp [mkEs, mkEs_len mt l]
def mkUp (mt : Int → ByteArray) (es : List (List T)) (k : Int) (j : Nat) : List (List T) := (mkEs mt (es.take j) k).1 ++ es.drop j
def mkK (mt : Int → ByteArray) (es : List (List T)) (k : Int) (j : Nat) : Int := (mkEs mt (es.take j) k).2
theorem mkUp_len {mt : Int → ByteArray} {es : List (List T)} {k : Int} {j : Nat} : (mkUp mt es k j).length = es.length := by simp [mkUp, mkEs_len]; omega
theorem mkUp_zero {mt : Int → ByteArray} {es : List (List T)} {k : Int} : mkUp mt es k 0 = es := by simp [mkUp, mkEs]
theorem mkUp_all {mt : Int → ByteArray} {es : List (List T)} {k : Int} : mkUp mt es k es.length = (mkEs mt es k).1 := by simp [mkUp]
theorem mkK_all {mt : Int → ByteArray} {es : List (List T)} {k : Int} : mkK mt es k es.length = (mkEs mt es k).2 := by simp [mkK]
theorem mkUp_get {mt : Int → ByteArray} {es : List (List T)} {k : Int} {j : Nat} (h : j < es.length) (h' : j < (mkUp mt es k j).length) : (mkUp mt es k j)[j] = es[j] := by
  have : (mkEs mt (es.take j) k).1.length = j := by rw [mkEs_len]; simp; omega
  simp only [mkUp]
  rw [List.getElem_append_right (by omega)]
  simp [this]
theorem mkUp_succ {mt : Int → ByteArray} {es : List (List T)} {k : Int} {j : Nat} (h : j < es.length) : (mkUp mt es k j).set j (mkCs mt es[j] (mkK mt es k j)).1 = mkUp mt es k (j + 1) := by
  have hl : (mkEs mt (es.take j) k).1.length = j := by rw [mkEs_len]; simp; omega
  simp only [mkUp, mkK]
  rw [List.set_append_right _ _ (by omega), hl, Nat.sub_self, List.drop_eq_getElem_cons h, List.set_cons_zero, List.take_succ_eq_append_getElem h, mkEs_append]
  simp [mkEs]
theorem mkK_succ {mt : Int → ByteArray} {es : List (List T)} {k : Int} {j : Nat} (h : j < es.length) : mkK mt es k (j + 1) = (mkCs mt es[j] (mkK mt es k j)).2 := by
  simp only [mkK]
  rw [List.take_succ_eq_append_getElem h, mkEs_append]
  simp [mkEs]
def Und (p : Tok) (S : Stable) (b : Nat) : Prop := ∃ q, p <+: q ∧ S.t q b
structure Nmd (w : World) (S : Stable) : Prop where
  full : ∀ q b, q ≠ [] → S.t q b → ∃ vs e, w.heap[b]? = some (.cells vs e (0, 0))
  i1 : ∀ q b b', q ≠ [] → S.t q b → S.t q b' → b = b'
  i2 : ∀ q q' b, q ≠ [] → S.t q b → S.t q' b → q = q'
structure Mv (p : Tok) (w : World) (S : Stable) (w' : World) : Prop where
  os : w'.os = w.os
  tape : w'.tape = w.tape
  output : w'.output = w.output
  size : w.heap.size ≤ w'.heap.size
  block : ∀ b, b < w.heap.size → ¬ Und p S b → w'.heap[b]? = w.heap[b]?
  full : ∀ q b, q ≠ [] → S.t q b → ∃ vs e, w'.heap[b]? = some (.cells vs e (0, 0))
section
variable {w w' w1 w2 : World} {S : Stable} {p : Tok}
theorem Mv.refl (hn : Nmd w S) : Mv p w S w := ⟨rfl, rfl, rfl, Nat.le_refl _, fun _ _ _ => rfl, hn.full⟩
theorem Mv.trans {q : Tok} (h : Mv p w S w1) (k : Mv q w1 S w2) (hq : p <+: q) : Mv p w S w2 :=
  ⟨k.os.trans h.os, k.tape.trans h.tape, k.output.trans h.output, Nat.le_trans h.size k.size, fun b hb hu =>
    (k.block b (Nat.lt_of_lt_of_le hb h.size) (fun ⟨q', h1, h2⟩ => hu ⟨q', hq.trans h1, h2⟩)).trans (h.block b hb hu), k.full⟩
theorem Mv.nmd (hn : Nmd w S) (h : Mv p w S w') : Nmd w' S := ⟨h.full, hn.i1, hn.i2⟩
theorem Rep.same {t : T} {v : Value} (h : Rep w S t v) : (∀ x ∈ tkT t, ∃ q, x = some q ∧ ∀ b, S.t q b → w'.heap[b]? = w.heap[b]?) → Rep w' S t v := by
  induction h with
  | b x => exact fun _ => .b x
  | i k n => exact fun _ => .i k n
  | s x => exact fun _ => .s x
  | raw v h => exact fun _ => .raw v h
  | nil A a cap => exact fun _ => .nil A a cap
  | sl A es B off m cap vs hb ht h0 hm hcap hs hc hr ih =>
    intro hx
    by_cases hes : es = []
    · subst hes; exact .nil _ _ _
    obtain ⟨q, rfl⟩ := annTok_some hes (A := A) (fun hn => by obtain ⟨_, h, _⟩ := hx none (List.mem_append_left _ hn); cases h)
    obtain ⟨q', h1, h2⟩ := hx (some q) (List.mem_append_left _ (by simp [annTok]))
    cases h1
    have hB := h2 B (ht q rfl).1
    have hsub : ∀ i j (hi : i < es.length) (hj : j < es[i].length), ∀ x ∈ tkT es[i][j], x ∈ tkEs es := by
      have cs : ∀ (l : List T) (j : Nat) (hj : j < l.length), ∀ x ∈ tkT l[j], x ∈ tkCs l := by
        intro l
        induction l with
        | nil => intro j hj; cases hj
        | cons a l ihl =>
          intro j hj x hx
          cases j with
          | zero => exact List.mem_append_left _ hx
          | succ j => exact List.mem_append_right _ (ihl j (by simpa using hj) x (by simpa using hx))
      have go : ∀ (l : List (List T)) i (hi : i < l.length), ∀ x ∈ tkCs l[i], x ∈ tkEs l := by
        intro l
        induction l with
        | nil => intro i hi; cases hi
        | cons a l ihl =>
          intro i hi x hx
          cases i with
          | zero => exact List.mem_append_left _ hx
          | succ i => exact List.mem_append_right _ (ihl i (by simpa using hi) x (by simpa using hx))
      exact fun i j hi hj x hx => go es i hi x (cs es[i] j hj x hx)
    refine .sl _ es B off m cap vs hb ht h0 hm hcap hs (fun i j hi hj => ?_) (fun i j hi hj => ih i j hi hj fun x hx' => hx x (List.mem_append_right _ (hsub i j hi hj x hx')))
    rw [← hc i j hi hj]
    simp only [World.cell?, hB]
theorem Rep.frame {t : T} {v : Value} (h : Rep w S (t.cn p) v) (hw : ∀ b, Und p S b → w'.heap[b]? = w.heap[b]?) : Rep w' S (t.cn p) v :=
  h.same fun x hx => let ⟨q, h1, h2⟩ := (tk_cn t p).some x hx; ⟨q, h1, fun b hb => hw b ⟨q, h2, hb⟩⟩
structure Row (w : World) (S : Stable) (p : Tok) (B off m : Nat) (es : List (List T)) (vs : Nat → Nat → Value) : Prop where
  name : S.t p B ∧ (p ≠ [] → off = 0)
  hm : ∀ i (hi : i < es.length), es[i].length = m
  st : ∀ i j, i < es.length → j < m → S B (off + i * m + j)
  cell : ∀ i j, i < es.length → j < m → w.cell? ⟨B, off + i * m + j, none⟩ = some (vs i j)
  rep : ∀ i j (hi : i < es.length) (hj : j < es[i].length), Rep w S (T.cn (p ++ [i] ++ [j]) es[i][j]) (vs i j)
theorem Row.of {es : List (List T)} {v : Value} (he : es ≠ []) (h : Rep w S (.sl (.tok p) (cnEs p 0 es)) v) : ∃ B off m cap vs, v = .slice (some ⟨B, off, none⟩) es.length cap ∧ es.length ≤ cap ∧ 0 < m ∧ Row w S p B off m es vs := by
  generalize hx : cnEs p 0 es = xs at h
  cases h with
  | nil _ a cap =>
    have := cnEs_len p es 0
    rw [hx] at this
    exact absurd (List.eq_nil_of_length_eq_zero this.symm) he
  | sl _ _ B off m cap vs hb ht h0 hm hcap hs hc hr =>
    subst hx
    have hl := cnEs_len p es 0
    have hlen : ∀ i (hi : i < es.length), es[i].length = m := fun i hi => by
      have := hm _ (List.getElem_mem (l := cnEs p 0 es) (n := i) (by omega))
      rwa [cnEs_get, cnCs_len] at this
    have hj' : ∀ i j (hi : i < es.length), j < m → j < ((cnEs p 0 es)[i]'(by omega)).length := fun i j hi hj => by rw [cnEs_get, cnCs_len, hlen i hi]; exact hj
    refine ⟨B, off, m, cap, vs, by rw [hl], by omega, h0, ht p rfl, hlen, fun i j hi hj => hs i j (by omega) (hj' i j hi hj), fun i j hi hj => hc i j (by omega) (hj' i j hi hj), fun i j hi hj => ?_⟩
    have := hr i j (by omega) (hj' i j hi (by rw [← hlen i hi]; exact hj))
    simp only [cnEs_get, cnCs_get] at this
    exact this
theorem Row.to {B off m cap : Nat} {es : List (List T)} {vs : Nat → Nat → Value} (h : Row w S p B off m es vs) (h0 : 0 < m) (hcap : es.length ≤ cap) : Rep w S (.sl (.tok p) (cnEs p 0 es)) (.slice (some ⟨B, off, none⟩) es.length cap) := by
  have hl := cnEs_len p es 0
  rw [← hl]
  have hlen : ∀ i (hi : i < (cnEs p 0 es).length), (cnEs p 0 es)[i].length = m := fun i hi => by rw [cnEs_get, cnCs_len]; exact h.hm i (by omega)
  refine .sl _ _ B off m cap vs trivial (fun q hq => by cases hq; exact h.name) h0 ?_ (by omega) ?_ ?_ ?_
  · intro e he
    obtain ⟨i, hi, rfl⟩ := List.mem_iff_getElem.1 he
    exact hlen i hi
  · exact fun i j hi hj => h.st i j (by omega) (by rw [← hlen i hi]; exact hj)
  · exact fun i j hi hj => h.cell i j (by omega) (by rw [← hlen i hi]; exact hj)
  · intro i j hi hj
    simp only [cnEs_get, cnCs_get]
    exact h.rep i j (by omega) (by rw [h.hm]; rw [← hlen i hi]; exact hj)
theorem Row.turn {B off m : Nat} {es : List (List T)} {vs : Nat → Nat → Value} (h : Row w S p B off m es vs) (hn : Nmd w S) (hp : p ≠ []) {i c : Nat} (hi : i < es.length) (hc : c < m) {t' : T} {v' : Value}
    (h1 : ∀ b, Und p S b → b ≠ B → ¬ Und (p ++ [i] ++ [c]) S b → w'.heap[b]? = w.heap[b]?) (h2 : ∀ x, x ≠ off + i * m + c → w'.cell? ⟨B, x, none⟩ = w.cell? ⟨B, x, none⟩)
    (h3 : w'.cell? ⟨B, off + i * m + c, none⟩ = some v') (h4 : Rep w' S (T.cn (p ++ [i] ++ [c]) t') v') :
    Row w' S p B off m (es.set i (es[i].set c t')) (fun a b => if a = i ∧ b = c then v' else vs a b) := by
  have hcl : c < es[i].length := by rw [h.hm i hi]; exact hc
  have hidx : ∀ a b, a < es.length → b < m → ¬ (a = i ∧ b = c) → off + a * m + b ≠ off + i * m + c := by
    intro a b ha hb hne e
    have e : a * m + b = i * m + c := by omega
    have h0 : 0 < m := by omega
    have e1 : (a * m + b) / m = a := by rw [Nat.mul_comm, Nat.mul_add_div h0, Nat.div_eq_of_lt hb]; rfl
    have e2 : (i * m + c) / m = i := by rw [Nat.mul_comm, Nat.mul_add_div h0, Nat.div_eq_of_lt hc]; rfl
    have : a = i := by rw [← e1, e, e2]
    subst this
    exact hne ⟨rfl, by omega⟩
  refine ⟨h.name, ?_, fun a b ha hb => h.st a b (by simpa using ha) hb, ?_, ?_⟩
  · intro a ha
    have ha' : a < es.length := by simpa using ha
    by_cases hai : i = a
    · subst hai; simp [h.hm i hi]
    · rw [List.getElem_set_ne hai]; exact h.hm a ha'
  · intro a b ha hb
    have ha' : a < es.length := by simpa using ha
    by_cases he : a = i ∧ b = c
    · obtain ⟨rfl, rfl⟩ := he; simpa using h3
    · rw [if_neg he, h2 _ (hidx a b ha' hb he)]; exact h.cell a b ha' hb
  · intro a b ha hb
    have ha' : a < es.length := by simpa using ha
    by_cases he : a = i ∧ b = c
    · obtain ⟨rfl, rfl⟩ := he
      simpa using h4
    · rw [if_neg he]
      have hbl : b < es[a].length := by
        by_cases hai : i = a
        · subst hai; simpa using hb
        · rw [List.getElem_set_ne hai] at hb; exact hb
      have hg : (es.set i (es[i].set c t'))[a][b] = es[a][b] := by
        by_cases hai : i = a
        · subst hai
          simp only [List.getElem_set_self]
          rw [List.getElem_set_ne (fun e => he ⟨rfl, e.symm⟩)]
        · simp only [List.getElem_set_ne hai]
      rw [hg]
      refine (h.rep a b ha' hbl).frame fun bl ⟨q, g1, g2⟩ => ?_
      have hpq : p <+: q := (List.prefix_append p [a]).trans ((List.prefix_append (p ++ [a]) [b]).trans g1)
      have hq0 : q ≠ [] := fun e => by subst e; exact hp (List.prefix_nil.1 hpq)
      refine h1 bl ⟨q, hpq, g2⟩ ?_ ?_
      · rintro rfl
        have := hn.i2 p q _ hp h.name.1 g2
        subst this
        have := g1.length_le
        simp at this
        omega
      · rintro ⟨q', g3, g4⟩
        have := hn.i2 q q' bl hq0 g2 g4
        subst this
        by_cases hai : a = i
        · subst hai
          exact not_both (p := p ++ [a]) (r := []) (q := []) (show b ≠ c from fun e => he ⟨rfl, e⟩) (by rw [List.append_nil]; exact g1) (by rw [List.append_nil]; exact g3)
        · exact not_both (p := p) hai g1 g3
theorem cell_frozen {b x : Nat} {vs : Array Value} {e : TypeId} (h : w.heap[b]? = some (.cells vs e (0, 0))) : w.frozen? ⟨b, x, none⟩ = false := by
  simp [World.frozen?, h]
theorem Row.store {B off m : Nat} {es : List (List T)} {vs : Nat → Nat → Value} (h : Row w S p B off m es vs) (hn : Nmd w S) (hp : p ≠ []) {i c : Nat} (hi : i < es.length) (hc : c < m) {t' : T} {v' : Value} (ht : ∀ (w : World) (q : Tok), Rep w S (T.cn q t') v') :
    w.cell? ⟨B, off + i * m + c, none⟩ = some (vs i c) ∧ w.frozen? ⟨B, off + i * m + c, none⟩ = false ∧
      Row (w.setCell ⟨B, off + i * m + c, none⟩ v') S p B off m (es.set i (es[i].set c t')) (fun a b => if a = i ∧ b = c then v' else vs a b) ∧ Mv p w S (w.setCell ⟨B, off + i * m + c, none⟩ v') := by
  have h0 := h.cell i c hi hc
  obtain ⟨cs, e, hb⟩ := hn.full p B hp h.name.1
  have hoth : ∀ b, b ≠ B → (w.setCell ⟨B, off + i * m + c, none⟩ v').heap[b]? = w.heap[b]? := fun b hb => Go.RowKit.Below.heap_setCell w ⟨B, off + i * m + c, none⟩ v' b hb
  refine ⟨h0, cell_frozen hb, h.turn hn hp hi hc (fun b _ hbn _ => hoth b hbn) (fun x hx => World.cell?_setCell_other w _ _ _ (fun e => hx (by cases e; rfl))) (World.cell?_setCell_same w _ _ h0) (ht _ _), rfl, rfl, rfl, by simp, fun b _ hu => hoth b (fun e => hu ⟨p, List.prefix_refl _, e ▸ h.name.1⟩), ?_⟩
  intro q b hq hS
  by_cases hbB : b = B
  · subst hbB
    exact ⟨_, _, heap_setCell_same w b (off + i * m + c) cs e v' hb⟩
  · rw [hoth b hbB]; exact hn.full q b hq hS
theorem Row.sub {B off m : Nat} {es : List (List T)} {vs : Nat → Nat → Value} (h : Row w S p B off m es vs) (hn : Nmd w S) (hp : p ≠ []) {i c : Nat} (hi : i < es.length) (hc : c < m) {t' : T}
    (hm : Mv (p ++ [i] ++ [c]) w S w') (hlt : ∀ b x, S b x → b < w.heap.size) (hnm : ∀ q b, q ≠ [] → S.t q b → ∃ x, S b x) (h4 : Rep w' S (T.cn (p ++ [i] ++ [c]) t') (vs i c)) :
    Row w' S p B off m (es.set i (es[i].set c t')) vs := by
  have hB : w'.heap[B]? = w.heap[B]? := by
    refine hm.block B (hlt B _ (h.st i c hi hc)) ?_
    rintro ⟨q, h1, h2⟩
    have := hn.i2 p q B hp h.name.1 h2
    subst this
    have := h1.length_le
    simp at this
    omega
  have hcell : ∀ x, w'.cell? ⟨B, x, none⟩ = w.cell? ⟨B, x, none⟩ := fun x => by simp only [World.cell?, hB]
  have := h.turn hn hp hi hc (w' := w') (t' := t') (v' := vs i c) (fun b ⟨q, h1, h2⟩ _ hu => hm.block b (by
    have hq0 : q ≠ [] := fun e => by subst e; exact hp (List.prefix_nil.1 h1)
    obtain ⟨x, hx⟩ := hnm q b hq0 h2
    exact hlt b x hx) hu) (fun x _ => hcell x) (by rw [hcell]; exact h.cell i c hi hc) h4
  have e : (fun a b => if a = i ∧ b = c then vs i c else vs a b) = vs := by
    funext a b
    split
    · rename_i hh; obtain ⟨rfl, rfl⟩ := hh; rfl
    · rfl
  rw [e] at this
  exact this
end
def MOk (mt : Int → ByteArray) (P : Program) (g : FuncId) (Sh : List (List T) → Prop) : Prop :=
  ∀ (w : World) (S : Stable) (p : Tok) (es : List (List T)) (v : Value) (k : Int), p ≠ [] → Nmd w S → (∀ b x, S b x → b < w.heap.size) → (∀ q b, q ≠ [] → S.t q b → ∃ x, S b x) → Sh es → Rep w S (.sl (.tok p) (cnEs p 0 es)) v →
    Calls P g #[v, .int .i64 k] w fun e w' => e = .returned (.int .i64 (mkEs mt es k).2) ∧ Rep w' S (.sl (.tok p) (cnEs p 0 (mkEs mt es k).1)) v ∧ Mv p w S w'
end Go.Av
end
section
set_option linter.unusedVariables false
set_option linter.unusedSectionVars false
namespace Go.Av
mutual
theorem T.ann_ann (A B : Ann) : ∀ t : T, (t.ann B).ann A = t.ann A
  | .b _ => rfl
  | .i _ _ => rfl
  | .s _ => rfl
  | .raw _ => rfl
  | .sl _ es => by simp only [T.ann, annEs_annEs A B es]
theorem annEs_annEs (A B : Ann) : ∀ es : List (List T), annEs A (annEs B es) = annEs A es
  | [] => rfl
  | e :: es => by simp only [annEs, annCs_annCs A B e, annEs_annEs A B es]
theorem annCs_annCs (A B : Ann) : ∀ es : List T, annCs A (annCs B es) = annCs A es
  | [] => rfl
  | e :: es => by simp only [annCs, T.ann_ann A B e, annCs_annCs A B es]
end
def SafeT (p : Tok) (t : T) : Prop := ∀ x ∈ tkT t, ∃ q, x = some q ∧ ¬ p <+: q
def MkT (p : Tok) (t0 t1 : T) (t t' : T) : Prop := (t = t0 ∧ t' = t1) ∨ (t' = t ∧ SafeT p t)
mutual
def MkTV (p : Tok) (t0 t1 : T) : TV → TV → Prop
  | _, .unk => True
  | .d t, .d t' => MkT p t0 t1 t t'
  | .nl, .nl => True
  | .agg cs, .agg ds => MkL p t0 t1 cs ds
  | .ptr k o, .ptr k' o' => k' = k ∧ o' = o
  | .own k, .own k' => k' = k
  | _, _ => False
def MkL (p : Tok) (t0 t1 : T) : List TV → List TV → Prop
  | [], [] => True
  | x :: xs, y :: ys => MkTV p t0 t1 x y ∧ MkL p t0 t1 xs ys
  | _, _ => False
end
def MkTm (p : Tok) (t0 t1 : T) (l : List (Nat × TV)) : List (Nat × TV) → Prop
  | [] => True
  | (i, y) :: r => (∃ x, lk i l = some x ∧ MkTV p t0 t1 x y) ∧ MkTm p t0 t1 l r
def MkO (p : Tok) (t0 t1 : T) (l : Objs) : Objs → Prop
  | [] => True
  | (i, .box ds ty) :: r => (∃ cs, lk i l = some (.box cs ty) ∧ MkL p t0 t1 cs ds) ∧ MkO p t0 t1 l r
  | _ => False
theorem two_of {vs : Array Value} (h : vs.size = 2) : ∃ v0 v1, vs = #[v0, v1] := by
  refine ⟨vs[0], vs[1], Array.ext h fun i h1 h2 => ?_⟩
  have : i = 0 ∨ i = 1 := by omega
  rcases this with rfl | rfl <;> rfl
section
variable [Known] {P : Program} {X : Nat → Prop} {β0 : Places} {w0 w w' : World} {S0 S S' : Stable} {st st' : St} {a : Act} {β β' : Places} {p : Tok} {t0 t1 : T}
theorem SafeT.leaf {t : T} (h : tkT t = []) : SafeT p t := fun x hx => by rw [h] at hx; cases hx
theorem SafeT.cn {n m : Nat} {r q : Tok} (hne : n ≠ m) (t : T) : SafeT (n :: r) (t.cn (m :: q)) := fun x hx => by
  obtain ⟨q', h1, h2⟩ := (tk_cn t (m :: q)).some x hx
  refine ⟨q', h1, fun ⟨u, hu⟩ => ?_⟩
  obtain ⟨u', hu'⟩ := h2
  rw [← hu'] at hu
  exact hne (by simpa using (List.cons.inj hu).1)
theorem SafeT.sl {n m : Nat} {r q : Tok} (hne : n ≠ m) (es : List (List T)) : SafeT (n :: r) (.sl (.tok (m :: q)) (cnEs (m :: q) 0 es)) := SafeT.cn hne (.sl .any es)
theorem MkTV.ptr {k o : Nat} : MkTV p t0 t1 (.ptr k o) (.ptr k o) := ⟨rfl, rfl⟩
theorem MkTV.keep {t : T} (h : SafeT p t) : MkTV p t0 t1 (.d t) (.d t) := .inr ⟨rfl, h⟩
theorem MkTV.leaf {t : T} (h : tkT t = []) : MkTV p t0 t1 (.d t) (.d t) := .keep (SafeT.leaf h)
theorem MkTV.root : MkTV p t0 t1 (.d t0) (.d t1) := .inl ⟨rfl, rfl⟩
theorem MkL.nil : MkL p t0 t1 [] [] := trivial
theorem MkL.cons {x y : TV} {xs ys : List TV} (h : MkTV p t0 t1 x y) (k : MkL p t0 t1 xs ys) : MkL p t0 t1 (x :: xs) (y :: ys) := ⟨h, k⟩
theorem MkTm.nil {l : List (Nat × TV)} : MkTm p t0 t1 l [] := trivial
theorem MkTm.cons {l r : List (Nat × TV)} {i : Nat} {x y : TV} (h : lk i l = some x) (h2 : MkTV p t0 t1 x y) (k : MkTm p t0 t1 l r) : MkTm p t0 t1 l ((i, y) :: r) := ⟨⟨_, h, h2⟩, k⟩
theorem MkO.nil {l : Objs} : MkO p t0 t1 l [] := trivial
theorem MkO.cons {l r : Objs} {i : Nat} {cs ds : List TV} {ty : Option TypeId} (h : lk i l = some (.box cs ty)) (h2 : MkL p t0 t1 cs ds) (k : MkO p t0 t1 l r) : MkO p t0 t1 l ((i, .box ds ty) :: r) := ⟨⟨_, h, h2⟩, k⟩
theorem tk_ann (q : Tok) : ∀ n : Nat, (∀ (t : T), SizeOf.sizeOf t < n → ∀ x ∈ tkT (t.ann (.tok q)), x = some q) ∧ (∀ (l : List T), SizeOf.sizeOf l < n → ∀ x ∈ tkCs (annCs (.tok q) l), x = some q) ∧ (∀ (l : List (List T)), SizeOf.sizeOf l < n → ∀ x ∈ tkEs (annEs (.tok q) l), x = some q) := by
  intro n
  induction n with
  | zero => exact ⟨fun _ h => absurd h (Nat.not_lt_zero _), fun _ h => absurd h (Nat.not_lt_zero _), fun _ h => absurd h (Nat.not_lt_zero _)⟩
  | succ n ih =>
    refine ⟨fun t h x hx => ?_, fun l h x hx => ?_, fun l h x hx => ?_⟩
    · cases t with
      | sl A es =>
        simp only [T.ann, tkT] at hx
        rcases List.mem_append.1 hx with hx | hx
        · have ha : annTok (.tok q) (annEs (.tok q) es) = [some q] := by cases annEs (.tok q) es <;> rfl
          rw [ha] at hx
          simpa using hx
        · exact ih.2.2 es (by simp at h; omega) x hx
      | _ => cases hx
    · cases l with
      | nil => cases hx
      | cons a l =>
        simp only [annCs, tkCs] at hx
        simp at h
        rcases List.mem_append.1 hx with hx | hx
        · exact ih.1 a (by omega) x hx
        · exact ih.2.1 l (by omega) x hx
    · cases l with
      | nil => cases hx
      | cons a l =>
        simp only [annEs, tkEs] at hx
        simp at h
        rcases List.mem_append.1 hx with hx | hx
        · exact ih.2.1 a (by omega) x hx
        · exact ih.2.2 l (by omega) x hx
theorem SafeT.age {n : Nat} {r : Tok} (es : List (List T)) : SafeT (n :: r) (.sl (.tok []) (annEs (.tok []) es)) := fun x hx => by
  have := (tk_ann [] (SizeOf.sizeOf (T.sl .any es) + 1)).1 (.sl .any es) (by omega) x hx
  exact ⟨[], this, fun h => by have := h.length_le; simp at this⟩
theorem MkL_get : ∀ {cs ds : List TV}, MkL p t0 t1 cs ds → cs.length = ds.length ∧ ∀ i (hi : i < cs.length) (hj : i < ds.length), MkTV p t0 t1 cs[i] ds[i]
  | [], [], _ => ⟨rfl, fun i hi => by cases hi⟩
  | x :: xs, y :: ys, h => by
    obtain ⟨a1, a2⟩ := MkL_get h.2
    refine ⟨by simp [a1], fun i hi hj => ?_⟩
    cases i with
    | zero => exact h.1
    | succ i => exact a2 i (by simpa using hi) (by simpa using hj)
  | [], _ :: _, h => h.elim
  | _ :: _, [], h => h.elim
theorem MkTV_rv {tv : TV} {v : Value} (hT : ∀ t t' v, MkT p t0 t1 t t' → Rep w S t v → Rep w' S t' v) (h : RV P w S β tv v) : ∀ tv', MkTV p t0 t1 tv tv' → RV P w' S β tv' v := by
  induction h with
  | unk v => intro tv' hm; cases tv' <;> first | exact .unk _ | exact hm.elim
  | d h => intro tv' hm; cases tv' <;> first | exact .unk _ | exact .d (hT _ _ _ hm h) | exact hm.elim
  | nl a => intro tv' hm; cases tv' <;> first | exact .unk _ | exact .nl _ | exact hm.elim
  | @agg cs vs hl h ih =>
    intro tv' hm
    cases tv' with
    | unk => exact .unk _
    | agg ds =>
      obtain ⟨a1, a2⟩ := MkL_get hm
      exact .agg (a1 ▸ hl) fun i hi hj => ih i (by omega) hj _ (a2 i (by omega) hi)
    | _ => exact hm.elim
  | tup hl h ih => intro tv' hm; cases tv' <;> first | exact .unk _ | exact hm.elim
  | ptr k off => intro tv' hm; cases tv' <;> first | exact .unk _ | (obtain ⟨rfl, rfl⟩ := hm; exact .ptr _ _) | exact hm.elim
  | own k ad had => intro tv' hm; cases tv' <;> first | exact .unk _ | (obtain rfl := hm; exact .own _ ad had) | exact hm.elim
  | ap k i f => intro tv' hm; cases tv' <;> first | exact .unk _ | exact hm.elim
  | rp hs hc hr => intro tv' hm; cases tv' <;> first | exact .unk _ | exact hm.elim
  | clo hl h ih => intro tv' hm; cases tv' <;> first | exact .unk _ | exact hm.elim
  | fn h => intro tv' hm; cases tv' <;> first | exact .unk _ | exact hm.elim
theorem MkTV_ok {q : Nat → Prop} : ∀ {tv tv' : TV}, MkTV p t0 t1 tv tv' → tv.ok q → tv'.ok q := by
  have key : ∀ n : Nat, ∀ tv tv' : TV, SizeOf.sizeOf tv < n → MkTV p t0 t1 tv tv' → tv.ok q → tv'.ok q := by
    intro n
    induction n with
    | zero => exact fun t _ h => absurd h (Nat.not_lt_zero _)
    | succ n ih =>
      intro tv tv' h hm ho
      cases tv' with
      | unk => trivial
      | d t => trivial
      | nl => trivial
      | agg ds =>
        cases tv with
        | agg cs =>
          obtain ⟨a1, a2⟩ := MkL_get hm
          have ho : okL q cs := ho
          show okL q ds
          rw [okL_iff]
          intro x hx
          obtain ⟨i, hi, rfl⟩ := List.mem_iff_getElem.1 hx
          exact ih _ _ (by have := List.sizeOf_lt_of_mem (List.getElem_mem (l := cs) (n := i) (by omega)); simp at h; omega) (a2 i (by omega) hi) (okL_get ho i (by omega))
        | _ => exact hm.elim
      | ptr k o =>
        cases tv with
        | ptr k' o' => obtain ⟨rfl, rfl⟩ := hm; exact ho
        | _ => exact hm.elim
      | own k =>
        cases tv with
        | own k' => obtain rfl := hm; exact ho
        | _ => exact hm.elim
      | _ => cases tv <;> exact hm.elim
  exact fun {tv tv'} => key _ tv tv' (Nat.lt_succ_self _)
theorem MkTm_lk {l : List (Nat × TV)} : ∀ {r : List (Nat × TV)} {i : Nat} {y : TV}, MkTm p t0 t1 l r → lk i r = some y → ∃ x, lk i l = some x ∧ MkTV p t0 t1 x y
  | [], _, _, _, h => by cases h
  | (j', y') :: r, i, y, hm, h => by
    obtain ⟨h1, h2⟩ := hm
    by_cases hij : i = j'
    · subst hij; rw [lk_cons_eq] at h; cases h; exact h1
    · rw [lk_cons_ne _ _ hij] at h; exact MkTm_lk h2 h
theorem MkO_lk {l : Objs} : ∀ {r : Objs} {i : Nat} {y : Obj}, MkO p t0 t1 l r → lk i r = some y → ∃ cs ds ty, lk i l = some (.box cs ty) ∧ y = .box ds ty ∧ MkL p t0 t1 cs ds
  | [], _, _, _, h => by cases h
  | (j', .box ds ty') :: r, i, y, hm, h => by
    obtain ⟨⟨cs, h1, h3⟩, h2⟩ := hm
    by_cases hij : i = j'
    · subst hij; rw [lk_cons_eq] at h; cases h; exact ⟨cs, ds, _, h1, rfl, h3⟩
    · rw [lk_cons_ne _ _ hij] at h; exact MkO_lk h2 h
  | (_, .arr _ _ _) :: _, _, _, hm, _ => by cases hm
  | (_, .fz _ _ _) :: _, _, _, hm, _ => by cases hm
theorem Sim.nmd (h : Sim P X β0 w0 S0 st a w S β) {g : Nat × Bool} (hg : st.g = some g) : Nmd w S ∧ (∀ q b, q ≠ [] → S.t q b → ∃ x, S b x) := by
  have htk := h.tk
  rw [hg] at htk
  obtain ⟨n, al⟩ := g
  refine ⟨⟨fun q b hq hS => (htk.2.2.new q b ⟨hq, hS⟩).2.2.1, fun q b b' hq h1 h2 => htk.2.2.i1 q b b' ⟨hq, h1⟩ ⟨hq, h2⟩, fun q q' b hq h1 h2 => ?_⟩, fun q b hq hS => ⟨0, (htk.2.2.new q b ⟨hq, hS⟩).2.2.2 0⟩⟩
  by_cases hq' : q' = []
  · subst hq'; exact absurd ((htk.2.1 b h2).2.2 q h1) hq
  · exact htk.2.2.i2 q q' b ⟨hq, h1⟩ ⟨hq', h2⟩
theorem Sim.marked (h : Sim P X β0 w0 S0 st a w S β) (hK : ∀ b o v, ¬ Known.k b o v) {n : Nat × Bool} (hg : st.g = some n) (hp : p ≠ []) (hm : Mv p w S w') (ht : ∀ v, Rep w S t0 v → Rep w' S t1 v)
    {tm : List (Nat × TV)} {ob : Objs} (h1 : MkTm p t0 t1 st.t tm) (h2 : MkO p t0 t1 st.o ob) :
    Sim P X β0 w0 S0 { t := tm, o := ob, ks := st.ks, n := st.n, sz := st.sz, u := st.u, g := st.g } a w' S β := by
  have htk := h.tk
  rw [hg] at htk
  obtain ⟨n, al⟩ := n
  have hund : ∀ b, Und p S b → S.ne.t [] b ∨ ∃ q, S.ne.t q b := fun b ⟨q, g1, g2⟩ => .inr ⟨q, fun e => by subst e; exact hp (List.prefix_nil.1 g1), g2⟩
  have hst : ∀ b, Und p S b → w0.heap.size ≤ b ∧ ∀ o, S b o := fun b hu => by
    rcases hund b hu with g | ⟨q, g⟩
    · exact absurd rfl g.1
    · exact ⟨(htk.2.2.new q b g).2.1, (htk.2.2.new q b g).2.2.2⟩
  have hT : ∀ t t' v, MkT p t0 t1 t t' → Rep w S t v → Rep w' S t' v := by
    rintro t t' v (⟨rfl, rfl⟩ | ⟨rfl, hs⟩) hr
    · exact ht _ hr
    · refine hr.same fun x hx => ?_
      obtain ⟨q, e, hq⟩ := hs x hx
      refine ⟨q, e, fun b hb => hm.block b ?_ ?_⟩
      · by_cases hq0 : q = []
        · subst hq0; obtain ⟨o, ho⟩ := (htk.2.1 b hb).2.1; exact h.bnd b o ho
        · exact h.bnd b 0 ((htk.2.2.new q b ⟨hq0, hb⟩).2.2.2 0)
      · rintro ⟨q', g1, g2⟩
        have hq'0 : q' ≠ [] := fun e => by subst e; exact hp (List.prefix_nil.1 g1)
        have : q' = q := (h.nmd hg).1.i2 q' q b hq'0 g2 hb
        subst this
        exact hq g1
  refine ⟨fun b o v hv => absurd hv (hK b o v), h.dfr, h.size, ?_, ?_, ?_, ?_, ?_, fun b x hs => Nat.lt_of_lt_of_le (h.bnd b x hs) hm.size, h.sub, h.new, ?_, Nat.le_trans h.n hm.size, h.fix, ?_, ?_⟩
  · intro i tv hl
    obtain ⟨x, g1, g2⟩ := MkTm_lk h1 hl
    obtain ⟨v, hv, hr, ho⟩ := h.tmps i x g1
    exact ⟨v, hv, MkTV_rv hT hr _ g2, MkTV_ok g2 ho⟩
  · intro k o' hl
    obtain ⟨cs, ds, ty, g1, rfl, g2⟩ := MkO_lk h2 hl
    obtain ⟨k1, k2, k3⟩ := h.objs k _ g1
    have k2 : okL (· ∈ st.ks) cs := k2
    obtain ⟨a1, a2⟩ := MkL_get g2
    refine ⟨?_, ?_, k3⟩
    · have hsep := h.sep k _ g1 rfl
      cases k1 with
      | box hv hbb hll hr hty =>
        have hb2 : w'.heap[(β k).blk]? = w.heap[(β k).blk]? := by
          refine hm.block _ (Array.getElem?_eq_some_iff.1 hbb).1 fun hu => ?_
          exact hsep _ (by simp [foot, hv]) 0 ((hst _ hu).2 0)
        exact .box hv (hb2.trans hbb) (a1 ▸ hll) (fun i hi hj => MkTV_rv hT (hr i (by omega) hj) _ (a2 i (by omega) hi)) hty
    · show okL _ _
      rw [okL_iff]
      intro x hx
      obtain ⟨i, hi, rfl⟩ := List.mem_iff_getElem.1 hx
      exact MkTV_ok (a2 i (by omega) hi) (okL_get k2 i (by omega))
  · intro k o' hl
    obtain ⟨cs, ds, ty, g1, rfl, g2⟩ := MkO_lk h2 hl
    exact fun x hx => h.own k (.box cs ty) g1 x hx
  · intro k k' ob ob' hl hl'
    obtain ⟨cs, ds, ty, g1, rfl, g2⟩ := MkO_lk h2 hl
    obtain ⟨cs', ds', ty', g1', rfl, g2'⟩ := MkO_lk h2 hl'
    exact h.inj k k' _ _ g1 g1'
  · intro k ob hl hw
    obtain ⟨cs, ds, ty, g1, rfl, g2⟩ := MkO_lk h2 hl
    exact h.sep k _ g1 rfl
  · refine ⟨hm.os.trans h.below.os, hm.tape.trans h.below.tape, hm.output.trans h.below.output, Nat.le_trans h.below.size hm.size, fun k hk hx => ?_⟩
    rw [← h.below.block k hk hx]
    exact hm.block k (Nat.lt_of_lt_of_le hk h.below.size) fun hu => by have := (hst k hu).1; omega
  · intro b z hz
    obtain ⟨b1, b2, b3, b4⟩ := h.gh b z hz
    refine ⟨?_, b2, ?_, b4⟩
    · rw [← b1]
      exact hm.block b (Array.getElem?_eq_some_iff.1 b1).1 fun hu => b2 0 ((hst b hu).2 0)
    · intro k ob hl
      obtain ⟨cs, ds, ty, g1, rfl, g2⟩ := MkO_lk h2 hl
      exact b3 k _ g1
  · show TOk X w0 S0 w' S st.g
    rw [hg]
    exact ⟨htk.1, htk.2.1, fun q b hq => let ⟨c1, c2, c3, c4⟩ := htk.2.2.new q b hq; ⟨c1, c2, hm.full q b hq.1 hq.2, c4⟩, htk.2.2.i1, htk.2.2.i2⟩
theorem root_all {es es' : List (List T)} {v0 : Value} (hn : Nmd w S) (hp : p ≠ []) (hl : es'.length = es.length) (h0 : Rep w S (.sl (.tok p) (cnEs p 0 es)) v0) (h1 : Rep w' S (.sl (.tok p) (cnEs p 0 es')) v0) :
    ∀ v, Rep w S (.sl (.tok p) (cnEs p 0 es)) v → Rep w' S (.sl (.tok p) (cnEs p 0 es')) v := by
  intro v hv
  by_cases he : es = []
  · subst he
    obtain rfl : es' = [] := List.eq_nil_of_length_eq_zero hl
    cases hv with
    | nil _ a cap => exact .nil _ _ _
    | sl _ _ B off m cap vs => exact .nil _ _ _
  · have he' : es' ≠ [] := fun e => he (List.eq_nil_of_length_eq_zero (by rw [← hl, e]; rfl))
    obtain ⟨B, off, m, cap, vs, rfl, hcap, hm0, row⟩ := Row.of he h0
    obtain ⟨B1, off1, m1, cap1, vs1, rfl, hcap1, hm1, row1⟩ := Row.of he hv
    obtain ⟨B2, off2, m2, cap2, vs2, e2, hcap2, hm2, row2⟩ := Row.of he' h1
    simp only [Value.slice.injEq, Option.some.injEq, Addr.mk.injEq] at e2
    obtain ⟨⟨rfl, rfl, _⟩, _, rfl⟩ := e2
    have hB : B1 = B := hn.i1 p _ _ hp row1.name.1 row.name.1
    subst hB
    have ho : off = 0 := row.name.2 hp
    have ho1 : off1 = 0 := row1.name.2 hp
    subst ho; subst ho1
    rw [← hl]
    exact row2.to hm2 (by omega)
def MCall (P : Program) (f : FuncId) (p : Tok) (t0 t1 : T) (args : List TV) (k : Int) : Prop :=
  ∀ (w : World) (S : Stable) (β : Places) (vs : Array Value), Nmd w S → (∀ b x, S b x → b < w.heap.size) → (∀ q b, q ≠ [] → S.t q b → ∃ x, S b x) → args.length = vs.size →
    (∀ i (hi : i < args.length) (hj : i < vs.size), RV P w S β args[i] vs[i]) →
    Calls P f vs w fun e w' => e = .returned (.int .i64 k) ∧ Mv p w S w' ∧ ∀ v, Rep w S t0 v → Rep w' S t1 v
theorem wpR {C : Cfg} (hE : ∀ g h, C.E g = some h → ExtOk C.P g h) (hO : ∀ g h ins args r, C.O g = some h → h ins args = some r → m1 C g ins args r) {ops : Array Oper} {Q : Exit → Act → World → Prop} :
    ∀ (l : List Oper) (i m : Nat) (st s : St), (∃ r, ops.toList.drop i = l ++ r) → evR C ops ⟨⟩ l ⟨⟩ st = some s → (∀ a w, SimE C.P X β0 w0 S0 s a w → wpOps C.P ops Q (List.range' (i + l.length) m) a w) →
      ∀ a w, SimE C.P X β0 w0 S0 st a w → wpOps C.P ops Q (List.range' i (l.length + m)) a w
  | [], i, m, st, s, _, e, k, a, w, hs => by cases e; simpa using k a w hs
  | o :: l, i, m, st, s, ⟨r, hd⟩, e, k, a, w, hs => by
    simp only [evR] at e
    split at e
    · rename_i s1 h1
      have g1 := (ev_all C hE hO).2.2.2.2.1 o _ st s1 h1
      have hlen : (o :: l).length + m = (l.length + m) + 1 := by simp; omega
      rw [hlen, List.range'_succ, wpOps_cons]
      have hi : ops[i]? = some o := by
        have := congrArg (fun z => z[0]?) hd
        simpa using this
      have hd2 : ops.toList.drop (i + 1) = l ++ r := by
        rw [← List.drop_drop, hd]; rfl
      have g2 := wpR hE hO (Q := Q) l (i + 1) m s1 s ⟨r, hd2⟩ e (fun a w hs => by
        have := k a w hs
        rwa [show i + (o :: l).length = i + 1 + l.length by simp; omega] at this)
      obtain ⟨k0, k1, k2⟩ := g1.here hs
      obtain ⟨S, β, hsim⟩ := hs
      unfold wpOp
      rw [hi]
      simp only []
      cases hg : gval ops st o with
      | none => exact absurd hg k0
      | some b =>
        rw [gval_sound hsim hg]
        rw [hg] at k1 k2
        cases b with
        | true => rw [if_pos rfl]; exact .inl (Oper.wp_mono (fun a' w' hs' => g2 a' w' hs') (k1 rfl Q))
        | false => rw [if_neg (by simp)]; exact g2 _ _ (k2 rfl)
    · cases e
theorem wp_markop {o : Oper} {c : Call} {f : FuncId} {args : List TV} {k : Int} {Q : Exit → Act → World → Prop} (hK : ∀ b o v, ¬ Known.k b o v) {n : Nat × Bool} (hg : st.g = some n) (hp : p ≠ [])
    (ho : o.op = .call c) (hf : c.callee = .value (.func f)) (hpl : Plainly P f) (hargs : c.args.toList.map (evc st) = args) (hc : MCall P f p t0 t1 args k)
    {tm : List (Nat × TV)} {ob : Objs} (h1 : MkTm p t0 t1 st.t tm) (h2 : MkO p t0 t1 st.o ob) {s : St}
    (hput : put { t := tm, o := ob, ks := st.ks, n := st.n, sz := st.sz, u := st.u, g := st.g } (.d (.i .i64 k)) o.dst = some s) (h : Sim P X β0 w0 S0 st a w S β) :
    o.wp P a w (fun a' w' => SimE P X β0 w0 S0 s a' w') Q := by
  have E := evc_sound h
  have hexec : (execOp a.eval o).run P w = .ok (.enter f ((c.args.map a.eval) ++ #[])) w := by
    unfold execOp
    rw [ho]
    simp only [resolve, hf, Act.eval, Deferred.ofValue, Sem.run_bind, Sem.run_pure, Result.andThen_ok, invoke]
    rw [Array.empty_append]
    exact run_callFunc hpl
  unfold Oper.wp
  rw [hexec, Oper.upon_enter, Array.append_empty]
  obtain ⟨hn, hnm⟩ := h.nmd hg
  refine (hc w S β (c.args.map a.eval) hn h.bnd hnm (by rw [← hargs]; simp) ?_).mono ?_
  · intro i hi hj
    subst hargs
    simp only [List.getElem_map, Array.getElem_map, Array.getElem_toList]
    exact (E _).1
  · rintro e w' ⟨rfl, hm, ht⟩
    exact ⟨_, _, (h.marked hK hg hp hm ht h1 h2).put (.d (.i _ _)) trivial hput⟩
theorem Wp.mark {C : Cfg} (hE : ∀ g h, C.E g = some h → ExtOk C.P g h) (hO : ∀ g h ins args r, C.O g = some h → h ins args = some r → m1 C g ins args r) (hK : ∀ b o v, ¬ Known.k b o v)
    {id : Nat} {l1 l2 : List Oper} {o : Oper} {c : Call} {f : FuncId} {args : List TV} {k : Int} {rest : Code} {s1 s2 s3 : St} {Q : Exit → Act → World → Prop}
    (e1 : evR C (l1 ++ o :: l2).toArray ⟨⟩ l1 ⟨⟩ st = some s1) {n : Nat × Bool} (hg : s1.g = some n) (hp : p ≠ []) (hgd : o.guard = none)
    (ho : o.op = .call c) (hf : c.callee = .value (.func f)) (hpl : Plainly C.P f) (hargs : c.args.toList.map (evc s1) = args) (hc : MCall C.P f p t0 t1 args k)
    {tm : List (Nat × TV)} {ob : Objs} (h1 : MkTm p t0 t1 s1.t tm) (h2 : MkO p t0 t1 s1.o ob)
    (hput : put { t := tm, o := ob, ks := s1.ks, n := s1.n, sz := s1.sz, u := s1.u, g := s1.g } (.d (.i .i64 k)) o.dst = some s2)
    (e2 : evR C (l1 ++ o :: l2).toArray ⟨⟩ l2 ⟨⟩ s2 = some s3) (kk : Wp C.P X β0 w0 S0 Q rest s3) : Wp C.P X β0 w0 S0 Q (.seq (.region id (l1 ++ o :: l2).toArray false) rest) st := by
  intro a w hs
  refine wp_seq (Q := Q) (wp_mono (Q := fun e a w => e = .normal ∧ SimE C.P X β0 w0 S0 s3 a w) (wp_region ?_) ?_)
  · have hsz : (l1 ++ o :: l2).toArray.size = l1.length + (l2.length + 1) := by simp
    rw [hsz, List.range_eq_range']
    refine wpR hE hO l1 0 (l2.length + 1) st s1 ⟨o :: l2, by simp⟩ e1 ?_ a w hs
    rintro a w ⟨S, β, hsim⟩
    rw [List.range'_succ, wpOps_cons]
    unfold wpOp
    have hi : (l1 ++ o :: l2).toArray[0 + l1.length]? = some o := by simp
    rw [hi]
    simp only []
    rw [if_pos (by simp [Region.wanted, hgd])]
    refine .inl (Oper.wp_mono ?_ (wp_markop hK hg hp ho hf hpl hargs hc h1 h2 hput hsim))
    intro a w hs
    have := wpR hE hO (Q := fun e a w => e = .normal ∧ SimE C.P X β0 w0 S0 s3 a w) l2 (0 + l1.length + 1) 0 s2 s3 ⟨[], by simp [List.drop_append]⟩ e2 (fun a w hs => ⟨rfl, hs⟩) a w hs
    simpa using this
  · rintro e a' w' ⟨rfl, hs'⟩
    exact kk a' w' hs'
theorem Wp.mark4 {C : Cfg} (hE : ∀ g h, C.E g = some h → ExtOk C.P g h) (hO : ∀ g h ins args r, C.O g = some h → h ins args = some r → m1 C g ins args r) (hK : ∀ b o v, ¬ Known.k b o v)
    {id : Nat} {o1 o2 o3 : Oper} {o : Oper} {c : Call} {f : FuncId} {args : List TV} {k : Int} {rest : Code} {s1 s2 s3 : St} {Q : Exit → Act → World → Prop}
    (e1 : evR C [o1, o2, o, o3].toArray ⟨⟩ [o1, o2] ⟨⟩ st = some s1) {n : Nat × Bool} (hg : s1.g = some n) (hp : p ≠ []) (hgd : o.guard = none)
    (ho : o.op = .call c) (hf : c.callee = .value (.func f)) (hpl : Plainly C.P f) (hargs : c.args.toList.map (evc s1) = args) (hc : MCall C.P f p t0 t1 args k)
    {tm : List (Nat × TV)} {ob : Objs} (h1 : MkTm p t0 t1 s1.t tm) (h2 : MkO p t0 t1 s1.o ob)
    (hput : put { t := tm, o := ob, ks := s1.ks, n := s1.n, sz := s1.sz, u := s1.u, g := s1.g } (.d (.i .i64 k)) o.dst = some s2)
    (e2 : evR C [o1, o2, o, o3].toArray ⟨⟩ [o3] ⟨⟩ s2 = some s3) (kk : Wp C.P X β0 w0 S0 Q rest s3) : Wp C.P X β0 w0 S0 Q (.seq (.region id [o1, o2, o, o3].toArray false) rest) st :=
  Wp.mark (l1 := [o1, o2]) (l2 := [o3]) hE hO hK e1 hg hp hgd ho hf hpl hargs hc h1 h2 hput e2 kk
end
end Go.Av
end
section
set_option linter.unusedSimpArgs false
set_option linter.unusedVariables false
namespace Go.Av
theorem bl_lt : ∀ x y : List UInt8, Op.bytesLess x y = decide (x < y)
  | [], [] => by simp [Op.bytesLess]
  | [], _ :: _ => by simp [Op.bytesLess]
  | _ :: _, [] => by simp [Op.bytesLess]
  | a :: x, b :: y => by
    have ih := bl_lt x y
    unfold Op.bytesLess
    simp only [List.cons_lt_cons_iff]
    by_cases h : a < b
    · simp [h]
    · by_cases h2 : b < a
      · have : a ≠ b := fun e => by subst e; exact h h2
        simp [h, h2, this]
      · have : a = b := UInt8.le_antisymm (UInt8.not_lt.1 h2) (UInt8.not_lt.1 h)
        subst this
        simp [h, ih]
def bl (a : ByteArray) : List UInt8 := a.data.toList
theorem bl_inj {a b : ByteArray} (h : bl a = bl b) : a = b := ByteArray.ext (Array.toList_inj.1 h)
theorem less_eq (a b : ByteArray) : Op.bytesLess a.toList b.toList = decide (bl a < bl b) := by rw [ba_toList, ba_toList, bl_lt]; rfl
structure Ord3 {α : Type} (c : α → α → Int) : Prop where
  eq : ∀ a b, c a b = 0 ↔ a = b
  anti : ∀ a b, c a b < 0 ↔ 0 < c b a
  trans : ∀ a b d, c a b < 0 → c b d < 0 → c a d < 0
theorem cmpI_ord : Ord3 cmpI := by
  refine ⟨fun a b => ?_, fun a b => ?_, fun a b d => ?_⟩ <;> unfold cmpI <;> (repeat' split) <;> omega
theorem cmpS_lt (a b : ByteArray) : cmpS a b < 0 ↔ bl a < bl b := by
  rw [cmpS_spec, less_eq]
  by_cases h : bl a < bl b
  · simp [h]
  · simp only [h, decide_false, Bool.false_eq_true, if_false, iff_false]
    split <;> omega
theorem cmpS_gt (a b : ByteArray) : 0 < cmpS a b ↔ bl b < bl a := by
  rw [cmpS_spec, less_eq]
  by_cases h : bl a < bl b
  · have : ¬ bl b < bl a := fun h' => List.lt_irrefl _ (List.lt_trans h h')
    simp [h, this]
  · simp only [h, decide_false, Bool.false_eq_true, if_false]
    split
    · rename_i e; subst e; simp [List.lt_irrefl]
    · rename_i e
      have : bl a ≠ bl b := fun e' => e (bl_inj e')
      simp only [show (0 : Int) < 1 from by decide, true_iff]
      exact Decidable.byContradiction fun h' => this (List.le_antisymm (List.not_lt.1 h') (List.not_lt.1 h))
theorem cmpS_ord : Ord3 cmpS := by
  refine ⟨fun a b => ?_, fun a b => by rw [cmpS_lt, cmpS_gt], fun a b d => by rw [cmpS_lt, cmpS_lt, cmpS_lt]; exact List.lt_trans⟩
  constructor
  · intro h
    have h1 := mt (cmpS_lt a b).2 (by omega)
    have h2 := mt (cmpS_gt a b).2 (by omega)
    exact bl_inj (List.le_antisymm (List.not_lt.1 h2) (List.not_lt.1 h1))
  · rintro rfl
    rw [cmpS_spec, less_eq]; simp [List.lt_irrefl]
theorem cmpV_ord : Ord3 cmpV := by
  have I := cmpI_ord
  have S := cmpS_ord
  refine ⟨fun a b => ?_, fun a b => ?_, fun a b d => ?_⟩
  · obtain ⟨k, n, s⟩ := a
    obtain ⟨k', n', s'⟩ := b
    unfold cmpV
    simp only [V.mk.injEq]
    by_cases h1 : cmpI k k' = 0
    · by_cases h2 : cmpI n n' = 0
      · have g1 := (I.eq _ _).1 h1
        have g2 := (I.eq _ _).1 h2
        subst g1 g2
        simp only [h1, h2, ne_eq, not_true_eq_false, if_false, S.eq, true_and]
      · have := mt (I.eq n n').2 h2
        simp [h1, h2, this]
    · have := mt (I.eq k k').2 h1
      simp [h1, this]
  · unfold cmpV
    have e1 := I.eq a.k b.k
    have e1' := I.eq b.k a.k
    have e2 := I.eq a.n b.n
    have e2' := I.eq b.n a.n
    have a1 := I.anti a.k b.k
    have a1' := I.anti b.k a.k
    have a2 := I.anti a.n b.n
    have a2' := I.anti b.n a.n
    have a3 := S.anti a.s b.s
    (repeat' split) <;> omega
  · unfold cmpV
    have e1 := I.eq a.k b.k
    have e2 := I.eq a.n b.n
    have f1 := I.eq b.k d.k
    have f2 := I.eq b.n d.n
    have g1 := I.eq a.k d.k
    have g2 := I.eq a.n d.n
    have t1 := I.trans a.k b.k d.k
    have t2 := I.trans a.n b.n d.n
    have t3 := S.trans a.s b.s d.s
    by_cases h1 : cmpI a.k b.k = 0
    · rw [e1] at h1
      rw [h1]
      rw [h1] at t1
      have z : cmpI b.k b.k = 0 := (I.eq _ _).2 rfl
      simp only [z, ne_eq, not_true_eq_false, if_false]
      by_cases h2 : cmpI a.n b.n = 0
      · rw [e2] at h2
        rw [h2]
        have z : cmpI b.n b.n = 0 := (I.eq _ _).2 rfl
        simp only [z, ne_eq, not_true_eq_false, if_false]
        (repeat' split) <;> first | exact t3 | omega | (intros; assumption)
      · by_cases h3 : cmpI b.n d.n = 0
        · rw [f2] at h3
          rw [← h3]
          simp only [h2, ne_eq, not_false_eq_true, if_true]
          (repeat' split) <;> first | omega | (intros; assumption)
        · simp only [h2, h3, ne_eq, not_false_eq_true, if_true]
          (repeat' split) <;> first | omega | (intros; assumption) | (intro p q; have := t2 p q; omega)
    · by_cases h3 : cmpI b.k d.k = 0
      · rw [f1] at h3
        rw [← h3]
        simp only [h1, ne_eq, not_false_eq_true, if_true]
        (repeat' split) <;> first | omega | (intros; assumption)
      · simp only [h1, h3, ne_eq, not_false_eq_true, if_true]
        (repeat' split) <;> first | omega | (intros; assumption) | (intro p q; have := t1 p q; omega)
theorem cmpRow_ord : Ord3 cmpRow := by
  have I := cmpV_ord
  refine ⟨fun a => ?_, fun a => ?_, fun a => ?_⟩
  · induction a with
    | nil => intro b; cases b <;> simp [cmpRow]
    | cons x a ih =>
      intro b
      cases b with
      | nil => simp [cmpRow]
      | cons y b =>
        simp only [cmpRow, List.cons.injEq]
        by_cases h : cmpV x y = 0
        · have g := (I.eq _ _).1 h
          subst g
          simp only [h, ne_eq, not_true_eq_false, if_false, ih, true_and]
        · have := mt (I.eq x y).2 h
          simp [h, this]
  · induction a with
    | nil => intro b; cases b <;> simp [cmpRow]
    | cons x a ih =>
      intro b
      cases b with
      | nil => simp [cmpRow]
      | cons y b =>
        simp only [cmpRow]
        have e1 := I.eq x y
        have e2 := I.eq y x
        have a1 := I.anti x y
        have a2 := I.anti y x
        have := ih b
        (repeat' split) <;> omega
  · induction a with
    | nil => intro b d; cases b <;> cases d <;> simp [cmpRow]
    | cons x a ih =>
      intro b d
      cases b with
      | nil => simp [cmpRow]
      | cons y b =>
        cases d with
        | nil =>
          simp only [cmpRow]
          intro _ h; omega
        | cons z d =>
          simp only [cmpRow]
          have t := I.trans x y z
          have ihh := ih b d
          by_cases h1 : cmpV x y = 0
          · have e := (I.eq _ _).1 h1
            subst e
            simp only [h1, ne_eq, not_true_eq_false, if_false]
            by_cases h2 : cmpV x z = 0
            · simp only [h2, ne_eq, not_true_eq_false, if_false]
              exact ihh
            · simp only [h2, ne_eq, not_false_eq_true, if_true]
              intro _ h; exact h
          · by_cases h2 : cmpV y z = 0
            · have e := (I.eq _ _).1 h2
              subst e
              simp only [h1, h2, ne_eq, not_false_eq_true, not_true_eq_false, if_true, if_false]
              intro h _; exact h
            · simp only [h1, h2, ne_eq, not_false_eq_true, if_true]
              intro p q
              have := t p q
              rw [if_pos (by omega)]
              exact this
theorem Ord3.refl {α : Type} {c : α → α → Int} (h : Ord3 c) (a : α) : c a a = 0 := (h.eq a a).2 rfl
end Go.Av
end
section
set_option linter.unusedSimpArgs false
set_option linter.unusedVariables false
namespace Go.Av
abbrev w64 (n : Int) : Int := IntKind.i64.wrap n
theorem w64_eq (n : Int) : w64 n = (n + 9223372036854775808) % 18446744073709551616 - 9223372036854775808 := by
  have a : ((2 : Int) ^ IntKind.i64.bits) = 18446744073709551616 := by decide
  have b : ((2 : Int) ^ (IntKind.i64.bits - 1)) = 9223372036854775808 := by decide
  have c : IntKind.i64.signed = true := rfl
  simp only [w64, IntKind.wrap, a, b, c, Bool.true_and, decide_eq_true_eq]
  split <;> omega
theorem w64_add (a b : Int) : w64 (w64 a + b) = w64 (a + b) := by rw [w64_eq, w64_eq, w64_eq]; omega
theorem w64_w (a : Int) : w64 (w64 a) = w64 a := by rw [w64_eq, w64_eq]; omega
theorem w64_0 : w64 0 = 0 := by decide
theorem w64_mul (a b : Int) : w64 (w64 a * b) = w64 (a * b) := by
  have h : ∃ k, w64 a = a + k * 18446744073709551616 := ⟨-((a + 9223372036854775808) / 18446744073709551616), by rw [w64_eq]; omega⟩
  obtain ⟨k, hk⟩ := h
  rw [hk, w64_eq, w64_eq, Int.add_mul]
  have : k * 18446744073709551616 * b = (k * b) * 18446744073709551616 := by rw [Int.mul_assoc, Int.mul_comm 18446744073709551616 b, ← Int.mul_assoc]
  rw [this]
  omega
def cntR : List C → List V → Int
  | [], _ => 0
  | c :: l, r => (if c.row = r then c.n else 0) + cntR l r
theorem cntR_none {l : List C} {r : List V} (h : ∀ c ∈ l, c.row ≠ r) : cntR l r = 0 := by
  induction l with
  | nil => rfl
  | cons c l ih =>
    have h1 := h c (List.mem_cons_self ..)
    have h2 := ih fun d hd => h d (List.mem_cons_of_mem _ hd)
    simp [cntR, h1, h2]
def Asc (l : List C) : Prop := l.Pairwise fun a b => cmpRow a.row b.row < 0
def Full (l : List C) : Prop := ∀ c ∈ l, w64 c.n = c.n ∧ c.n ≠ 0
def Canon (l : List C) : Prop := Asc l ∧ Full l
theorem Canon.head {c : C} {l : List C} (h : Canon (c :: l)) : ∀ d ∈ l, cmpRow c.row d.row < 0 := (List.pairwise_cons.1 h.1).1
theorem row_lt_ne {a b : List V} (h : cmpRow a b < 0) : b ≠ a := by rintro rfl; rw [cmpRow_ord.refl] at h; omega
theorem Canon.below {c : C} {l : List C} (h : Canon (c :: l)) {r : List V} (hr : cmpRow r c.row < 0) : cntR (c :: l) r = 0 := cntR_none fun d hd => by
  rcases List.mem_cons.1 hd with rfl | hd
  · exact row_lt_ne hr
  · exact row_lt_ne (cmpRow_ord.trans _ _ _ hr (h.head d hd))
end Go.Av
end
section
set_option linter.unusedSimpArgs false
set_option linter.unusedVariables false
namespace Go.Av
section
variable {α : Type} {lt : α → α → Bool}
def Srt (lt : α → α → Bool) (l : List α) : Prop := l.Pairwise fun a b => lt b a = false
def insRev (lt : α → α → Bool) (x : α) : List α → List α
  | [] => [x]
  | y :: s => bif lt x y then insRev lt x s ++ [y] else (y :: s).reverse ++ [x]
def ins (lt : α → α → Bool) (s : List α) (x : α) : List α := insRev lt x s.reverse
end
def ltC (a b : C) : Bool := decide (cmpRow a.row b.row < 0)
end Go.Av
end
section
set_option linter.unusedSimpArgs false
set_option linter.unusedVariables false
namespace Go.Av
end Go.Av
end
section
set_option linter.unusedSimpArgs false
set_option linter.unusedVariables false
namespace Go.Av
section
variable {C : Cfg} {g : FuncId} {h : LHint} {c : Code}
theorem evM_ex {α : Type} (F : α → St) (Q : α → Exit × St → Prop) (I : α → Prop) (m : α → Nat)
    (step : ∀ a, I a → (∀ b, I b → m b < m a → ∃ r, evM C g h c ⟨⟩ (F b) = some r ∧ Q b r) → ∃ r, roundC C g h c ⟨⟩ (evB C g c ⟨⟩ (F a)) = some r ∧ Q a r) : ∀ a, I a → ∃ r, evM C g h c ⟨⟩ (F a) = some r ∧ Q a r := by
  have key : ∀ n a, m a < n → I a → ∃ r, evM C g h c ⟨⟩ (F a) = some r ∧ Q a r := by
    intro n
    induction n with
    | zero => exact fun a h => absurd h (Nat.not_lt_zero _)
    | succ n ih =>
      intro a hn hI
      rw [evM_eq]
      exact step a hI fun b hb hm => ih b (by omega) hb
  exact fun a hI => key _ a (Nat.lt_succ_self _) hI
end
end Go.Av
end
section
set_option linter.unusedSimpArgs false
set_option linter.unusedVariables false
namespace Go.Av
structure Hd (p : Prop) : Prop where
  out : p
section
variable {α : Type}
end
end Go.Av
end
section
set_option linter.unusedSimpArgs false
set_option linter.unusedVariables false
namespace Go.Av
inductive FB (k : Nat) : List C → Prop where
  | nil : FB k []
  | cons {c r : List C} (h : c.length = k) (hs : Srt ltC c) (hr : FB k r) : FB k (c ++ r)
theorem FB.append {k : Nat} {x y : List C} (h : FB k x) (g : FB k y) : FB k (x ++ y) := by
  induction h with
  | nil => exact g
  | cons h hs _ ih => rw [List.append_assoc]; exact .cons h hs ih
theorem FB.one {k : Nat} {c : List C} (h : c.length = k) (hs : Srt ltC c) : FB k c := by
  have := FB.cons h hs .nil
  simpa using this
theorem FB.first {k : Nat} {x : List C} (h : FB k x) (hk : 0 < x.length) : ∃ c r, x = c ++ r ∧ c.length = k ∧ Srt ltC c ∧ FB k r := by
  cases h with
  | nil => cases hk
  | cons h hs hr => exact ⟨_, _, rfl, h, hs, hr⟩
theorem exQ {α : Type} {V : Option α} {Post : α → Prop} (k : ∀ Q : Option α → Prop, (∀ r, Post r → Q (some r)) → Q V) : ∃ r, V = some r ∧ Post r :=
  k (fun o => ∃ r, o = some r ∧ Post r) fun r h => ⟨r, rfl, h⟩
end Go.Av
end
section
set_option linter.unusedVariables false
namespace Go.Av
abbrev w6 (n : Int) : Int := IntKind.i64.wrap n
def kV (k : Int) : Int := w6 (w6 (w6 (k + 1) + 1) + 1)
def kIt (k : Int) : Nat → Int
  | 0 => k
  | i + 1 => kV (kIt k i)
def mkV1 (mt : Int → ByteArray) (k : Int) : V := ⟨k, w6 (k + 1), mt (w6 (w6 (k + 1) + 1))⟩
def MkdV (mt : Int → ByteArray) (L : List V) (k : Int) : Prop := ∀ i (h : i < L.length), L[i] = mkV1 mt (kIt k i)
def qAt (L : List C) (k : Int) (i : Nat) : Int := (L.take i).foldl (fun k c => w6 (kIt k c.row.length + 1)) k
structure MkdC (mt : Int → ByteArray) (L : List C) (k : Int) : Prop where
  row : ∀ i (h : i < L.length), MkdV mt L[i].row (qAt L k i)
  n : ∀ i (h : i < L.length), L[i].n = kIt (qAt L k i) L[i].row.length
  pos : ∀ i (h : i < L.length), 0 ≤ kIt (qAt L k i) L[i].row.length
theorem kIt_succ' (k : Int) (i : Nat) : kIt k (i + 1) = kIt (kV k) i := by
  induction i with
  | zero => rfl
  | succ i ih => rw [kIt, ih]; rfl
theorem qAt_zero (L : List C) (k : Int) : qAt L k 0 = k := by simp [qAt]
theorem qAt_succ {L : List C} {k : Int} {i : Nat} (h : i < L.length) : qAt L k (i + 1) = w6 (kIt (qAt L k i) L[i].row.length + 1) := by
  simp only [qAt]
  rw [List.take_succ_eq_append_getElem h, List.foldl_append]; rfl
theorem qAt_cons (c : C) (L : List C) (k : Int) (i : Nat) : qAt (c :: L) k (i + 1) = qAt L (w6 (kIt k c.row.length + 1)) i := by
  simp [qAt]
theorem kV_in {k : Int} (h0 : 0 ≤ k) (h1 : k + 3 ≤ 9223372036854775807) : kV k = k + 3 := by
  unfold kV w6
  rw [i64_in (n := k + 1) (by omega) (by omega), i64_in (n := k + 1 + 1) (by omega) (by omega), i64_in (n := k + 1 + 1 + 1) (by omega) (by omega)]; omega
theorem kIt_in {k : Int} : ∀ {i : Nat}, 0 ≤ k → k + 3 * i ≤ 9223372036854775807 → kIt k i = k + 3 * i
  | 0, _, _ => by simp [kIt]
  | i + 1, h0, h1 => by
    rw [kIt, kIt_in h0 (by omega), kV_in (by omega) (by omega)]; omega
def markVs (mt : Int → ByteArray) : List V → Int → List V
  | [], _ => []
  | _ :: l, k => mkV1 mt k :: markVs mt l (kV k)
theorem markVs_len (mt : Int → ByteArray) : ∀ (l : List V) (k : Int), (markVs mt l k).length = l.length
  | [], _ => rfl
  | _ :: l, k => by simp [markVs, markVs_len mt l]
theorem markVs_mkd (mt : Int → ByteArray) : ∀ (l : List V) (k : Int), MkdV mt (markVs mt l k) k
  | [], _ => fun i h => by cases h
  | _ :: l, k => fun i h => by
    cases i with
    | zero => rfl
    | succ i => rw [kIt_succ']; exact markVs_mkd mt l (kV k) i (by simpa [markVs] using h)
theorem mkEs_vC (mt : Int → ByteArray) : ∀ (l : List V) (k : Int), mkEs mt (l.map vC) k = ((markVs mt l k).map vC, kIt k l.length)
  | [], k => rfl
  | v :: l, k => by
    simp only [List.map_cons, mkEs, vC, mkCs, mkT, markVs, List.length_cons]
    have := mkEs_vC mt l (kV k)
    rw [show IntKind.i64.wrap (IntKind.i64.wrap (IntKind.i64.wrap (k + 1) + 1) + 1) = kV k from rfl, this, kIt_succ']
    rfl
def markCs (mt : Int → ByteArray) : List C → Int → List C
  | [], _ => []
  | c :: l, k => ⟨markVs mt c.row k, kIt k c.row.length⟩ :: markCs mt l (w6 (kIt k c.row.length + 1))
theorem markCs_len (mt : Int → ByteArray) : ∀ (l : List C) (k : Int), (markCs mt l k).length = l.length
  | [], _ => rfl
  | _ :: l, k => by simp [markCs, markCs_len mt l]
theorem markCs_row (mt : Int → ByteArray) : ∀ (l : List C) (k : Int) i (h : i < l.length) (h' : i < (markCs mt l k).length), (markCs mt l k)[i].row.length = l[i].row.length
  | [], _, i, h, _ => by cases h
  | c :: l, k, i, h, h' => by
    cases i with
    | zero => exact markVs_len mt _ _
    | succ i => exact markCs_row mt l _ i (by simpa using h) (by simpa [markCs] using h')
theorem mkEs_cC (mt : Int → ByteArray) : ∀ (l : List C) (k : Int), mkEs mt (l.map cC) k = ((markCs mt l k).map cC, qAt l k l.length)
  | [], k => rfl
  | c :: l, k => by
    have := mkEs_cC mt l (w6 (kIt k c.row.length + 1))
    simp only [List.map_cons, mkEs, cC, mkCs, mkT, mkEs_vC, markCs, List.length_cons, qAt_cons]
    rw [show IntKind.i64.wrap (kIt k c.row.length + 1) = w6 (kIt k c.row.length + 1) from rfl, this]
theorem qAt_mark (mt : Int → ByteArray) : ∀ (l : List C) (k : Int) (i : Nat), qAt (markCs mt l k) k i = qAt l k i
  | [], k, i => rfl
  | c :: l, k, 0 => by simp [qAt]
  | c :: l, k, i + 1 => by
    have := qAt_mark mt l (w6 (kIt k c.row.length + 1)) i
    simp only [markCs, qAt_cons, markVs_len]; exact this
def cellsC (l : List C) : Nat := (l.map fun c => 3 * c.row.length + 1).sum
theorem cellsC_cons (c : C) (l : List C) : cellsC (c :: l) = 3 * c.row.length + 1 + cellsC l := by simp [cellsC]
theorem markCs_mkd (mt : Int → ByteArray) : ∀ (l : List C) (k : Int), 0 ≤ k → k + cellsC l ≤ 9223372036854775807 → MkdC mt (markCs mt l k) k
  | [], k, _, _ => ⟨fun i h => (by cases h), fun i h => (by cases h), fun i h => (by cases h)⟩
  | c :: l, k, h0, h1 => by
    rw [cellsC_cons] at h1
    have e1 : kIt k c.row.length = k + 3 * c.row.length := kIt_in h0 (by omega)
    have e2 : w6 (kIt k c.row.length + 1) = k + 3 * c.row.length + 1 := by rw [e1]; exact i64_in (by omega) (by omega)
    have ih := markCs_mkd mt l (w6 (kIt k c.row.length + 1)) (by omega) (by omega)
    refine ⟨fun i h => ?_, fun i h => ?_, fun i h => ?_⟩
    · cases i with
      | zero => simp only [markCs, List.getElem_cons_zero, qAt_zero]; exact markVs_mkd mt _ _
      | succ i => simp only [markCs, List.getElem_cons_succ, qAt_cons, markVs_len]; exact ih.row i (by simpa [markCs] using h)
    · cases i with
      | zero => simp only [markCs, List.getElem_cons_zero, qAt_zero, markVs_len]
      | succ i => simp only [markCs, List.getElem_cons_succ, qAt_cons, markVs_len]; exact ih.n i (by simpa [markCs] using h)
    · cases i with
      | zero => simp only [markCs, List.getElem_cons_zero, qAt_zero, markVs_len]; omega
      | succ i => simp only [markCs, List.getElem_cons_succ, qAt_cons, markVs_len]; exact ih.pos i (by simpa [markCs] using h)
theorem qAt_in : ∀ (l : List C) (k : Int), 0 ≤ k → k + cellsC l ≤ 9223372036854775807 → qAt l k l.length = k + cellsC l
  | [], k, _, _ => by simp [qAt, cellsC]
  | c :: l, k, h0, h1 => by
    rw [cellsC_cons] at h1
    have e1 : kIt k c.row.length = k + 3 * c.row.length := kIt_in h0 (by omega)
    have e2 : w6 (kIt k c.row.length + 1) = k + 3 * c.row.length + 1 := by rw [e1]; exact i64_in (by omega) (by omega)
    rw [List.length_cons, qAt_cons, e2, qAt_in l _ (by omega) (by omega), cellsC_cons]; omega
theorem cellsC_le {l : List C} {m : Nat} : (∀ c ∈ l, c.row.length ≤ m) → cellsC l ≤ l.length * (3 * m + 1) := by
  induction l with
  | nil => intro _; simp [cellsC]
  | cons c l ih =>
    intro h
    have := ih fun d hd => h d (List.mem_cons_of_mem _ hd)
    have h1 := h c (by simp)
    rw [cellsC_cons, List.length_cons, Nat.add_mul]
    omega
end Go.Av
end
section
set_option linter.unusedVariables false
namespace Go.Av
def kR (k : Int) : Int := w6 (w6 (k + 1) + 1)
def rAt (L : List R) (k : Int) (i : Nat) : Int := (L.take i).foldl (fun k r => qAt r.bag.rows (kR k) r.bag.rows.length) k
structure MkdR (mt : Int → ByteArray) (L : List R) (k : Int) : Prop where
  name : ∀ i (h : i < L.length), L[i].name = mt (rAt L k i)
  w : ∀ i (h : i < L.length), L[i].bag.w = w6 (rAt L k i + 1)
  rows : ∀ i (h : i < L.length), MkdC mt L[i].bag.rows (kR (rAt L k i))
  pos : ∀ i (h : i < L.length), 0 ≤ qAt L[i].bag.rows (kR (rAt L k i)) L[i].bag.rows.length
theorem rAt_zero (L : List R) (k : Int) : rAt L k 0 = k := by simp [rAt]
theorem rAt_succ {L : List R} {k : Int} {i : Nat} (h : i < L.length) : rAt L k (i + 1) = qAt L[i].bag.rows (kR (rAt L k i)) L[i].bag.rows.length := by
  simp only [rAt]
  rw [List.take_succ_eq_append_getElem h, List.foldl_append]; rfl
theorem rAt_cons (c : R) (L : List R) (k : Int) (i : Nat) : rAt (c :: L) k (i + 1) = rAt L (qAt c.bag.rows (kR k) c.bag.rows.length) i := by
  simp [rAt]
def markRs (mt : Int → ByteArray) : List R → Int → List R
  | [], _ => []
  | r :: l, k => ⟨mt k, ⟨w6 (k + 1), markCs mt r.bag.rows (kR k)⟩⟩ :: markRs mt l (qAt r.bag.rows (kR k) r.bag.rows.length)
theorem markRs_len (mt : Int → ByteArray) : ∀ (l : List R) (k : Int), (markRs mt l k).length = l.length
  | [], _ => rfl
  | _ :: l, k => by simp [markRs, markRs_len mt l]
theorem markRs_rows (mt : Int → ByteArray) : ∀ (l : List R) (k : Int) i (h : i < l.length) (h' : i < (markRs mt l k).length), ∃ k', (markRs mt l k)[i].bag.rows = markCs mt l[i].bag.rows k'
  | [], _, i, h, _ => by cases h
  | c :: l, k, i, h, h' => by
    cases i with
    | zero => exact ⟨_, rfl⟩
    | succ i => exact markRs_rows mt l _ i (by simpa using h) (by simpa [markRs] using h')
theorem mkEs_rC (mt : Int → ByteArray) : ∀ (l : List R) (k : Int), mkEs mt (l.map rC) k = ((markRs mt l k).map rC, rAt l k l.length)
  | [], k => rfl
  | c :: l, k => by
    have := mkEs_rC mt l (qAt c.bag.rows (kR k) c.bag.rows.length)
    simp only [List.map_cons, mkEs, rC, mkCs, mkT, mkEs_cC, markRs, List.length_cons, rAt_cons]
    rw [show IntKind.i64.wrap (IntKind.i64.wrap (k + 1) + 1) = kR k from rfl, this]
theorem rAt_mark (mt : Int → ByteArray) : ∀ (l : List R) (k : Int) (i : Nat), rAt (markRs mt l k) k i = rAt l k i
  | [], k, i => rfl
  | c :: l, k, 0 => by simp [rAt]
  | c :: l, k, i + 1 => by
    have := rAt_mark mt l (qAt c.bag.rows (kR k) c.bag.rows.length) i
    simp only [markRs, rAt_cons, qAt_mark, markCs_len]; exact this
def cellsR (l : List R) : Nat := (l.map fun c => cellsC c.bag.rows + 2).sum
theorem cellsR_cons (c : R) (l : List R) : cellsR (c :: l) = cellsC c.bag.rows + 2 + cellsR l := by simp [cellsR]
theorem kR_in {k : Int} (h0 : 0 ≤ k) (h1 : k + 2 ≤ 9223372036854775807) : kR k = k + 2 := by
  unfold kR w6
  rw [i64_in (n := k + 1) (by omega) (by omega), i64_in (n := k + 1 + 1) (by omega) (by omega)]; omega
theorem markRs_mkd (mt : Int → ByteArray) : ∀ (l : List R) (k : Int), 0 ≤ k → k + cellsR l ≤ 9223372036854775807 → MkdR mt (markRs mt l k) k
  | [], k, _, _ => ⟨fun i h => (by cases h), fun i h => (by cases h), fun i h => (by cases h), fun i h => (by cases h)⟩
  | c :: l, k, h0, h1 => by
    rw [cellsR_cons] at h1
    have e1 : kR k = k + 2 := kR_in h0 (by omega)
    have e2 : qAt c.bag.rows (kR k) c.bag.rows.length = k + 2 + cellsC c.bag.rows := by rw [e1]; exact qAt_in _ _ (by omega) (by omega)
    have ih := markRs_mkd mt l (qAt c.bag.rows (kR k) c.bag.rows.length) (by omega) (by omega)
    refine ⟨fun i h => ?_, fun i h => ?_, fun i h => ?_, fun i h => ?_⟩
    · cases i with
      | zero => simp only [markRs, List.getElem_cons_zero, rAt_zero]
      | succ i => simp only [markRs, List.getElem_cons_succ, rAt_cons, qAt_mark, markCs_len]; exact ih.name i (by simpa [markRs] using h)
    · cases i with
      | zero => simp only [markRs, List.getElem_cons_zero, rAt_zero]
      | succ i => simp only [markRs, List.getElem_cons_succ, rAt_cons, qAt_mark, markCs_len]; exact ih.w i (by simpa [markRs] using h)
    · cases i with
      | zero => simp only [markRs, List.getElem_cons_zero, rAt_zero]; exact markCs_mkd mt _ _ (by omega) (by omega)
      | succ i => simp only [markRs, List.getElem_cons_succ, rAt_cons, qAt_mark, markCs_len]; exact ih.rows i (by simpa [markRs] using h)
    · cases i with
      | zero => simp only [markRs, List.getElem_cons_zero, rAt_zero, qAt_mark, markCs_len]; omega
      | succ i => simp only [markRs, List.getElem_cons_succ, rAt_cons, qAt_mark, markCs_len]; exact ih.pos i (by simpa [markRs] using h)
theorem rAt_in : ∀ (l : List R) (k : Int), 0 ≤ k → k + cellsR l ≤ 9223372036854775807 → rAt l k l.length = k + cellsR l
  | [], k, _, _ => by simp [rAt, cellsR]
  | c :: l, k, h0, h1 => by
    rw [cellsR_cons] at h1
    have e1 : kR k = k + 2 := kR_in h0 (by omega)
    have e2 : qAt c.bag.rows (kR k) c.bag.rows.length = k + 2 + cellsC c.bag.rows := by rw [e1]; exact qAt_in _ _ (by omega) (by omega)
    rw [List.length_cons, rAt_cons, e2, rAt_in l _ (by omega) (by omega), cellsR_cons]; omega
theorem cellsR_le {l : List R} {m : Nat} : (∀ r ∈ l, cellsC r.bag.rows ≤ m) → cellsR l ≤ l.length * (m + 2) := by
  induction l with
  | nil => intro _; simp [cellsR]
  | cons c l ih =>
    intro h
    have := ih fun d hd => h d (List.mem_cons_of_mem _ hd)
    have h1 := h c (by simp)
    rw [cellsR_cons, List.length_cons, Nat.add_mul]
    omega
end Go.Av
end
section
namespace Go.Av
@[push_cast] theorem er_sC (l : List ByteArray) : annEs .any (l.map sC) = l.map sC := annEs_map (fun _ => rfl) l
@[push_cast] theorem cn_sC (l : List ByteArray) (p : Tok) (i : Nat) : cnEs p i (l.map sC) = l.map sC := by
  rw [cnEs_eq]
  apply List.ext_getElem
  · simp
  · intro j h1 h2
    simp [sC, cnCs, T.cn]
@[push_cast] theorem tk_sC (l : List ByteArray) : tkEs (l.map sC) = [] := by
  induction l with
  | nil => rfl
  | cons x l ih => simp only [List.map_cons, tkEs, ih]; rfl
end Go.Av
end
section
set_option linter.unusedVariables false
namespace Go.Av
def sIt : Int → Nat → Int
  | k, 0 => k
  | k, n + 1 => sIt (w6 (k + 1)) n
theorem sIt_succ : ∀ (n : Nat) (k : Int), sIt k (n + 1) = w6 (sIt k n + 1)
  | 0, k => rfl
  | n + 1, k => by rw [sIt, sIt_succ n]; rfl
theorem sIt_in : ∀ (n : Nat) (k : Int), 0 ≤ k → k + n ≤ 9223372036854775807 → sIt k n = k + n
  | 0, k, _, _ => by simp [sIt]
  | n + 1, k, h0, h1 => by
    rw [sIt, show w6 (k + 1) = k + 1 from i64_in (by omega) (by omega), sIt_in n (k + 1) (by omega) (by omega)]
    omega
def markSs (mt : Int → ByteArray) : List ByteArray → Int → List ByteArray
  | [], _ => []
  | _ :: l, k => mt k :: markSs mt l (w6 (k + 1))
theorem markSs_len (mt : Int → ByteArray) : ∀ (l : List ByteArray) (k : Int), (markSs mt l k).length = l.length
  | [], _ => rfl
  | _ :: l, k => by simp [markSs, markSs_len mt l]
theorem mkEs_sC (mt : Int → ByteArray) : ∀ (l : List ByteArray) (k : Int), mkEs mt (l.map sC) k = ((markSs mt l k).map sC, sIt k l.length)
  | [], k => rfl
  | s :: l, k => by
    have := mkEs_sC mt l (w6 (k + 1))
    simp only [List.map_cons, mkEs, sC, mkCs, mkT, markSs, List.length_cons]
    show ([T.s (mt k)] :: (mkEs mt (List.map sC l) (w6 (k + 1))).fst, (mkEs mt (List.map sC l) (w6 (k + 1))).snd) = _
    rw [this]
    rfl
theorem markSs_mkd (mt : Int → ByteArray) : ∀ (l : List ByteArray) (k : Int) (i : Nat) (h : i < (markSs mt l k).length), (markSs mt l k)[i] = mt (sIt k i)
  | _ :: l, k, 0, h => rfl
  | _ :: l, k, i + 1, h => by
    have := markSs_mkd mt l (w6 (k + 1)) i (by simpa [markSs] using h)
    simpa [markSs, sIt] using this
end Go.Av
end
section
set_option linter.unusedVariables false
set_option linter.unusedSectionVars false
namespace Go.Av
def MmT (p : Tok) (Rt : T → T → Prop) (t t' : T) : Prop := Rt t t' ∨ (t' = t ∧ SafeT p t)
mutual
def MmTV (p : Tok) (Rt : T → T → Prop) : TV → TV → Prop
  | _, .unk => True
  | .d t, .d t' => MmT p Rt t t'
  | .nl, .nl => True
  | .agg cs, .agg ds => MmL p Rt cs ds
  | .ptr k o, .ptr k' o' => k' = k ∧ o' = o
  | .own k, .own k' => k' = k
  | _, _ => False
def MmL (p : Tok) (Rt : T → T → Prop) : List TV → List TV → Prop
  | [], [] => True
  | x :: xs, y :: ys => MmTV p Rt x y ∧ MmL p Rt xs ys
  | _, _ => False
end
def MmTm (p : Tok) (Rt : T → T → Prop) (l : List (Nat × TV)) : List (Nat × TV) → Prop
  | [] => True
  | (i, y) :: r => (∃ x, lk i l = some x ∧ MmTV p Rt x y) ∧ MmTm p Rt l r
def MmO (p : Tok) (Rt : T → T → Prop) (l : Objs) : Objs → Prop
  | [] => True
  | (i, .box ds ty) :: r => (∃ cs, lk i l = some (.box cs ty) ∧ MmL p Rt cs ds) ∧ MmO p Rt l r
  | _ => False
section
variable [Known] {P : Program} {X : Nat → Prop} {β0 : Places} {w0 w w' : World} {S0 S S' : Stable} {st st' : St} {a : Act} {β β' : Places} {p : Tok} {Rt : T → T → Prop}
theorem MmTV.ptr {k o : Nat} : MmTV p Rt (.ptr k o) (.ptr k o) := ⟨rfl, rfl⟩
theorem MmTV.keep {t : T} (h : SafeT p t) : MmTV p Rt (.d t) (.d t) := .inr ⟨rfl, h⟩
theorem MmTV.leaf {t : T} (h : tkT t = []) : MmTV p Rt (.d t) (.d t) := .keep (SafeT.leaf h)
theorem MmTV.root {t t' : T} (h : Rt t t') : MmTV p Rt (.d t) (.d t') := .inl h
theorem MmL.nil : MmL p Rt [] [] := trivial
theorem MmL.cons {x y : TV} {xs ys : List TV} (h : MmTV p Rt x y) (k : MmL p Rt xs ys) : MmL p Rt (x :: xs) (y :: ys) := ⟨h, k⟩
theorem MmTm.nil {l : List (Nat × TV)} : MmTm p Rt l [] := trivial
theorem MmTm.cons {l r : List (Nat × TV)} {i : Nat} {x y : TV} (h : lk i l = some x) (h2 : MmTV p Rt x y) (k : MmTm p Rt l r) : MmTm p Rt l ((i, y) :: r) := ⟨⟨_, h, h2⟩, k⟩
theorem MmO.nil {l : Objs} : MmO p Rt l [] := trivial
theorem MmO.cons {l r : Objs} {i : Nat} {cs ds : List TV} {ty : Option TypeId} (h : lk i l = some (.box cs ty)) (h2 : MmL p Rt cs ds) (k : MmO p Rt l r) : MmO p Rt l ((i, .box ds ty) :: r) := ⟨⟨_, h, h2⟩, k⟩
end
end Go.Av
end
section
set_option linter.unusedVariables false
namespace Go.Av
end Go.Av
end
section
namespace Go.Proofs
open Go.Shelf
def Tryz.sortedA_ren : Go.Shelf.Ren := ⟨fun | 6 => 90 | 8 => 114 | 9 => 115 | 11 => 128 | 13 => 130 | 12 => 129 | 23 => 147 | 24 => 148 | 14 => 138 | 15 => 139 | 16 => 140 | 17 => 141 | 18 => 142 | 19 => 143 | 20 => 144 | 21 => 145 | 22 => 146 | 25 => 154 | 26 => 155 | 27 => 156 | 28 => 157 | 29 => 158 | 30 => 159 | 31 => 162 | n => n, fun | 26 => 9 | 28 => 119 | 24 => 22 | 0 => 0 | 3 => 3 | 37 => 126 | 48 => 44 | 50 => 124 | 4 => 4 | 40 => 160 | 39 => 159 | 45 => 165 | 5 => 5 | 9 => 9 | 51 => 172 | 55 => 176 | 57 => 179 | 58 => 48 | 33 => 30 | n => n, fun | n => n⟩
theorem Tryz.sortedA : Go.Proofs.SlLaysZ.n6 Tryz.prog Tryz.sortedA_ren := {
  mixed := by kernel_rfl
  f6 := ⟨Tryz.f90.name, by decide, Tryz.func90.trans (congrArg some (by kernel_rfl))⟩
  f8 := ⟨Tryz.f114.name, by decide, Tryz.func114.trans (congrArg some (by kernel_rfl))⟩
  f11 := ⟨Tryz.f128.name, by decide, Tryz.func128.trans (congrArg some (by kernel_rfl))⟩
  t0 := Tryz.underlying0
  a0 := Tryz.isAgg0
  z0 := Tryz.sizeOf0
  v0 := Tryz.zeroValue0
  t24 := Tryz.underlying22
  a24 := Tryz.isAgg22
  z24 := Tryz.sizeOf22
  v24 := Tryz.zeroValue22
  t26 := Tryz.underlying9
  a26 := Tryz.isAgg9
  z26 := Tryz.sizeOf9
  v26 := Tryz.zeroValue9
  t28 := Tryz.underlying119
  a28 := Tryz.isAgg119
  z28 := Tryz.sizeOf119
  v28 := Tryz.zeroValue119
  i26 := by kernel_rfl }
def Tryz.sortA_ren : Go.Shelf.Ren := ⟨fun | 6 => 115 | 8 => 130 | 9 => 129 | 19 => 147 | 20 => 148 | 21 => 138 | 22 => 139 | 23 => 140 | 24 => 141 | 25 => 142 | 26 => 143 | 27 => 144 | 28 => 145 | 29 => 146 | 36 => 154 | 31 => 155 | 32 => 156 | 37 => 157 | 38 => 158 | 39 => 159 | 41 => 162 | n => n, fun | 27 => 22 | 29 => 9 | 3 => 3 | 32 => 126 | 26 => 22 | 0 => 0 | 44 => 44 | 46 => 124 | 4 => 4 | 36 => 160 | 35 => 159 | 41 => 165 | 5 => 5 | 9 => 9 | 53 => 172 | 57 => 176 | 63 => 179 | 64 => 48 | n => n, fun | n => n⟩
theorem Tryz.sortA : Go.Proofs.SlLaysM.n6 Tryz.prog Tryz.sortA_ren := {
  mixed := by kernel_rfl
  f6 := ⟨Tryz.f115.name, by decide, Tryz.func115.trans (congrArg some (by kernel_rfl))⟩
  f8 := Tryz.func130.trans (congrArg some (by kernel_rfl))
  f9 := ⟨Tryz.f129.name, by decide, Tryz.func129.trans (congrArg some (by kernel_rfl))⟩
  f19 := Tryz.func147.trans (congrArg some (by kernel_rfl))
  f20 := Tryz.func148.trans (congrArg some (by kernel_rfl))
  f21 := ⟨Tryz.f138.name, by decide, Tryz.func138.trans (congrArg some (by kernel_rfl))⟩
  f22 := ⟨Tryz.f139.name, by decide, Tryz.func139.trans (congrArg some (by kernel_rfl))⟩
  f23 := ⟨Tryz.f140.name, by decide, Tryz.func140.trans (congrArg some (by kernel_rfl))⟩
  f24 := ⟨Tryz.f141.name, by decide, Tryz.func141.trans (congrArg some (by kernel_rfl))⟩
  f25 := ⟨Tryz.f142.name, by decide, Tryz.func142.trans (congrArg some (by kernel_rfl))⟩
  f26 := ⟨Tryz.f143.name, by decide, Tryz.func143.trans (congrArg some (by kernel_rfl))⟩
  f27 := ⟨Tryz.f144.name, by decide, Tryz.func144.trans (congrArg some (by kernel_rfl))⟩
  f28 := ⟨Tryz.f145.name, by decide, Tryz.func145.trans (congrArg some (by kernel_rfl))⟩
  f29 := ⟨Tryz.f146.name, by decide, Tryz.func146.trans (congrArg some (by kernel_rfl))⟩
  f31 := Tryz.func155.trans (congrArg some (by kernel_rfl))
  f32 := Tryz.func156.trans (congrArg some (by kernel_rfl))
  f36 := ⟨Tryz.f154.name, by decide, Tryz.func154.trans (congrArg some (by kernel_rfl))⟩
  f37 := ⟨Tryz.f157.name, by decide, Tryz.func157.trans (congrArg some (by kernel_rfl))⟩
  f38 := ⟨Tryz.f158.name, by decide, Tryz.func158.trans (congrArg some (by kernel_rfl))⟩
  f39 := ⟨Tryz.f159.name, by decide, Tryz.func159.trans (congrArg some (by kernel_rfl))⟩
  f41 := ⟨Tryz.f162.name, by decide, Tryz.func162.trans (congrArg some (by kernel_rfl))⟩
  t0 := Tryz.underlying0
  a0 := Tryz.isAgg0
  z0 := Tryz.sizeOf0
  v0 := Tryz.zeroValue0
  t3 := Tryz.underlying3
  a3 := Tryz.isAgg3
  z3 := Tryz.sizeOf3
  v3 := Tryz.zeroValue3
  t4 := Tryz.underlying4
  a4 := Tryz.isAgg4
  z4 := Tryz.sizeOf4
  v4 := Tryz.zeroValue4
  t5 := Tryz.underlying5
  a5 := Tryz.isAgg5
  z5 := Tryz.sizeOf5
  v5 := Tryz.zeroValue5
  t9 := Tryz.underlying9
  a9 := Tryz.isAgg9
  z9 := Tryz.sizeOf9
  v9 := Tryz.zeroValue9
  t26 := Tryz.underlying22
  a26 := Tryz.isAgg22
  z26 := Tryz.sizeOf22
  v26 := Tryz.zeroValue22
  t27 := Tryz.underlying22
  a27 := Tryz.isAgg22
  z27 := Tryz.sizeOf22
  v27 := Tryz.zeroValue22
  t29 := Tryz.underlying9
  a29 := Tryz.isAgg9
  z29 := Tryz.sizeOf9
  v29 := Tryz.zeroValue9
  t32 := Tryz.underlying126
  a32 := Tryz.isAgg126
  z32 := Tryz.sizeOf126
  v32 := Tryz.zeroValue126
  t35 := Tryz.underlying159
  a35 := Tryz.isAgg159
  z35 := Tryz.sizeOf159
  v35 := Tryz.zeroValue159
  t36 := Tryz.underlying160
  a36 := Tryz.isAgg160
  z36 := Tryz.sizeOf160
  v36 := Tryz.zeroValue160
  t41 := Tryz.underlying165
  a41 := Tryz.isAgg165
  z41 := Tryz.sizeOf165
  v41 := Tryz.zeroValue165
  t44 := Tryz.underlying44
  a44 := Tryz.isAgg44
  z44 := Tryz.sizeOf44
  v44 := Tryz.zeroValue44
  t46 := Tryz.underlying124
  a46 := Tryz.isAgg124
  z46 := Tryz.sizeOf124
  v46 := Tryz.zeroValue124
  t53 := Tryz.underlying172
  a53 := Tryz.isAgg172
  z53 := Tryz.sizeOf172
  v53 := Tryz.zeroValue172
  t57 := Tryz.underlying176
  a57 := Tryz.isAgg176
  z57 := Tryz.sizeOf176
  v57 := Tryz.zeroValue176
  t63 := Tryz.underlying179
  a63 := Tryz.isAgg179
  z63 := Tryz.sizeOf179
  v63 := Tryz.zeroValue179
  t64 := Tryz.underlying48
  a64 := Tryz.isAgg48
  z64 := Tryz.sizeOf48
  v64 := Tryz.zeroValue48 }
end Go.Proofs
end
section
namespace Go.Proofs
open Go.RowKit Go.Maps Go.Sort Go.Shelf
variable {P : Program} {ρ : Ren}
def SeqGivesB {α : Type} (F : Fence) (n : Nat) (P : Program) (g : Nat) (lb : Array Value) (enc : α → Value) (S : List α → Prop) (N : Nat) (w : World) : Prop :=
  ∀ (l : Nat) (J : List α → World → Prop) (W : World), Below w.heap.size w W → AbidesFrom W.heap.size J → (∀ pre W1, J pre W1 → Below w.heap.size w W1) →
    (∀ pre x W1, J pre W1 → pre.length < N → YieldAt F (n - 1) P l #[enc x] W1 fun e W' => e = .returned (.bool true) ∧ J (pre ++ [x]) W' ∧ KeepsWalks W1 W') →
    J [] W →
    CallsIn F n P g (#[.func (.yield l) #[] #[]] ++ lb) W fun e W' => (∃ v, e = .returned v) ∧ ∃ xs, S xs ∧ J xs W'
set_option maxRecDepth 100000 in
set_option maxHeartbeats 2000000 in
theorem appendSeqB (L : SlLaysZ.n11 P ρ) (F : Fence) (n : Nat) (h11 : F.fn (ρ.f 11)) (hro : F.round = none) (hn : 2 ≤ n) (g : Nat) (lb : Array Value) (hFg : F.fn g) (eg : ∀ args w, (callFunc g args).run P w = .ok (.enter g args) w)
    (S : List (List UInt8) → Prop) (N : Nat) (hN : N ≤ maxLen) (hNb : N * 16 ≤ 140737488355328) (w : World) (hseq : SeqGivesB F (n - 1) P g lb encStr S N w) :
    CallsIn F n P (ρ.f 11) #[.slice none 0 0, .func (.func g) #[] lb] w fun e w' => ∃ (v : Value) (ss : List (List UInt8)), e = .returned v ∧ S ss ∧ w'.ownsRow w.heap.size (ρ.t 26) 1 v ss.length (ss.map encStr) ∧ (v = .slice none 0 0 ↔ ss = []) ∧ Below w.heap.size w w' := by
  have h1 : 1 ≤ n := by omega
  have mixed := L.mixed; have t0 := L.t0; have a0 := L.a0; have z0 := L.z0; have v0 := L.v0; have t24 := L.t24; have a24 := L.a24; have z24 := L.z24; have v24 := L.v24; have t26 := L.t26; have a26 := L.a26; have z26 := L.z26; have v26 := L.v26; have t28 := L.t28; have a28 := L.a28; have z28 := L.z28; have v28 := L.v28
  have hne : ρ.t 24 ≠ ρ.t 26 := fun e => by have h := L.t24; rw [e, L.t26] at h; cases h
  have u0 := run_underlying L.t0; have u24 := run_underlying L.t24; have u26 := run_underlying L.t26; have u28 := run_underlying L.t28
  obtain ⟨_, _, FG⟩ := L.f11
  refine callsIn_of_wp_marks FG rfl h11 ?_ hro
  simp only [SlBodyZ.n11_ntmps ρ, List.size_toArray, List.length_cons, List.length_nil, Nat.reduceAdd, Nat.reduceSub, Array.replicate_succ, Array.replicate_zero, List.push_toArray, List.append_toArray, List.nil_append, List.cons_append]
  gi_wp2
  refine wpIn_rangeFunc ?_
  intro fn hfn
  rw [hro]
  obtain ⟨W0, hW0⟩ : ∃ W0, w.alloc (.cells #[.slice none 0 0] (ρ.t 24)) = W0 := ⟨_, rfl⟩
  have hs0 : W0.heap.size = w.heap.size + 1 := by rw [← hW0]; simp
  have hv0 : W0.heap[w.heap.size]? = some (.cells #[.slice none 0 0] (ρ.t 24) (0, 0)) := by rw [← hW0]; exact World.alloc_heap_new w _
  have hb0 : Below w.heap.size w W0 := by rw [← hW0]; exact (Below.refl _ w).alloc (Nat.le_refl _) _
  rw [hW0]
  obtain ⟨W1, hW1⟩ : ∃ W1, (W0.alloc (.deferred (some []))).alloc (.loop (AnyZ.apRec ρ fn (.func (.func g) #[] lb) w.heap.size W0.heap.size .ready none)) = W1 := ⟨_, rfl⟩
  have hold : ∀ k, k < W0.heap.size → W1.heap[k]? = W0.heap[k]? := fun k hk => by
    rw [← hW1]; exact (Below.heap_alloc _ _ k (by simp; omega)).trans (Below.heap_alloc _ _ k hk)
  have hb1 : Below w.heap.size w W1 := by rw [← hW1]; exact (hb0.alloc hb0.size _).alloc (by have := hb0.size; simp; omega) _
  have hs1 : W1.heap.size = W0.heap.size + 2 := by rw [← hW1]; simp
  have hM : AnyZ.ApAt ρ w fn (.func (.func g) #[] lb) w.heap.size (W0.heap.size + 1) W0.heap.size [] W1 :=
    ⟨⟨_, (hold w.heap.size (by omega)).trans hv0, ⟨rfl, .inl ⟨rfl, rfl⟩⟩, by simp⟩,
     by rw [← hW1]; have := World.alloc_heap_new (W0.alloc (.deferred (some []))) (.loop (AnyZ.apRec ρ fn (.func (.func g) #[] lb) w.heap.size W0.heap.size .ready none)); rwa [World.size_alloc] at this,
     by rw [← hW1]; exact (Below.heap_alloc _ _ _ (by simp)).trans (World.alloc_heap_new W0 _), hb1⟩
  refine ⟨W0.heap.size + 1, [{ target := .collected W0.heap.size, args := #[] }], W1, { target := .fn (.func g) lb, args := #[.func (.yield (W0.heap.size + 1)) #[] #[]] }, W1, g,
    #[.func (.yield (W0.heap.size + 1)) #[] #[]] ++ lb, W1, ?_, ?_, ?_, ?_, fun _ => h1, ?_⟩
  · rw [← hW1]; exact run_enterLoop_outer _ _ _ _ _
  · simp [resolve, go_sem]
  · intro f' hf'; simp [Target.leads] at hf'; subst hf'; exact hFg
  · simp [invoke, go_sem, eg]
  · refine (hseq (W0.heap.size + 1) (AnyZ.ApAt ρ w fn (.func (.func g) #[] lb) w.heap.size (W0.heap.size + 1) W0.heap.size) W1 hb1 (AnyZ.ap_abides ρ _ _ _ _ _ _ _ hb1.size) (fun _ _ h => h.below)
      (fun pre x W hJ hl => AnyZ.apYield { L with } F (n - 1 - 1) w fn hfn _ w.heap.size (W0.heap.size + 1) W0.heap.size (by omega) (by omega) (by omega) (Nat.le_refl _) (by omega) N hN hNb pre x W hJ hl) hM).mono ?_
    rintro e W2 ⟨⟨v0, rfl⟩, ss, hS, h2⟩
    obtain ⟨v, hv, hrow, hnil⟩ := h2.box
    have hend := run_endLoop (P := P) h2.L (by simp [AnyZ.apRec])
    obtain ⟨W3, hW3⟩ : ∃ W3, W2.putObj (W0.heap.size + 1) (.loop { AnyZ.apRec ρ fn (.func (.func g) #[] lb) w.heap.size W0.heap.size .ready none with state := .exhausted }) = W3 := ⟨_, rfl⟩
    rw [hW3] at hend
    have hg3 : W2.grownBy W3 (some (W0.heap.size + 1)) := by rw [← hW3]; exact grownBy_putObj_a _ _ _
    have hv3 : W3.heap[w.heap.size]? = some (.cells #[v] (ρ.t 24) (0, 0)) := by rw [← hW3]; exact (World.putObj_heap_other (by omega)).trans hv
    have hK3 : W3.heap[W0.heap.size]? = some (.deferred (some [])) := by rw [← hW3]; exact (World.putObj_heap_other (by omega)).trans h2.K
    have hrow3 := hrow.kept hg3 (ownsRow_ne_a hrow h2.L (fun cur e => by first | cases e | exact hne (Obj.cells.inj e).2.1))
    have hb3 : Below w.heap.size w W3 := h2.below.grown hg3 h2.below.size (fun k e => by cases e; omega)
    obtain ⟨hc3, hf3⟩ := cell_of_box_a hv3
    clear hW3
    refine ⟨none, W3, hend, ?_⟩
    gi_wp2
    rw [← hs0]
    refine ⟨by simp, .inl ⟨_, _, rfl, run_takeDeferred hK3, ?_⟩⟩
    exact ⟨_, results_tmp rfl _ _ _, v, ss, rfl, hS, hrow3.kept (grownBy_putObj_a _ _ _) (ownsRow_ne_a hrow3 hK3 (fun cur e => by first | cases e | exact hne (Obj.cells.inj e).2.1)), hnil, hb3.grown (grownBy_putObj_a _ _ _) hb3.size (fun k e => by cases e; omega)⟩
set_option maxRecDepth 100000 in
set_option maxHeartbeats 2000000 in
theorem collectB (L : SlLaysZ.n8 P ρ) (F : Fence) (n : Nat) (h8 : F.fn (ρ.f 8)) (h11 : F.fn (ρ.f 11)) (hro : F.round = none) (hn : 3 ≤ n) (g : Nat) (lb : Array Value) (hFg : F.fn g) (eg : ∀ args w, (callFunc g args).run P w = .ok (.enter g args) w)
    (S : List (List UInt8) → Prop) (N : Nat) (hN : N ≤ maxLen) (hNb : N * 16 ≤ 140737488355328) (w : World) (hseq : SeqGivesB F (n - 1 - 1) P g lb encStr S N w) :
    CallsIn F n P (ρ.f 8) #[.func (.func g) #[] lb] w fun e w' => ∃ (v : Value) (ss : List (List UInt8)), e = .returned v ∧ S ss ∧ w'.ownsRow w.heap.size (ρ.t 26) 1 v ss.length (ss.map encStr) ∧ (v = .slice none 0 0 ↔ ss = []) ∧ Below w.heap.size w w' := by
  have h1 : 1 ≤ n := by omega
  have e11 : ∀ args w, (callFunc (ρ.f 11) args).run P w = .ok (.enter (ρ.f 11) args) w := L.f11.enters rfl
  have mixed := L.mixed; have t0 := L.t0; have a0 := L.a0; have z0 := L.z0; have v0 := L.v0; have t24 := L.t24; have a24 := L.a24; have z24 := L.z24; have v24 := L.v24; have t26 := L.t26; have a26 := L.a26; have z26 := L.z26; have v26 := L.v26; have t28 := L.t28; have a28 := L.a28; have z28 := L.z28; have v28 := L.v28
  have u0 := run_underlying L.t0; have u24 := run_underlying L.t24; have u26 := run_underlying L.t26; have u28 := run_underlying L.t28
  obtain ⟨_, _, FG⟩ := L.f8
  refine callsIn_of_wp FG rfl h8 ?_ hro
  simp only [SlBodyZ.n8_ntmps ρ, List.size_toArray, List.length_cons, List.length_nil, Nat.reduceAdd, Nat.reduceSub, Array.replicate_succ, Array.replicate_zero, List.push_toArray, List.append_toArray, List.nil_append, List.cons_append]
  gi_wp2_with (gi_at_fn (ρ.f 11); refine (appendSeqB { L with } F (n - 1) h11 hro (by omega) g lb hFg eg S N hN hNb _ hseq).mono ?_; rintro e w' ⟨v, ss, rfl, hS, hrow, hnil, hb⟩)
  go_ret
  exact ⟨v, ss, rfl, hS, hrow, hnil, hb⟩
set_option maxRecDepth 100000 in
set_option maxHeartbeats 2000000 in
theorem sortedB (L : SlLaysZ.n6 P ρ) (F : Fence) (n : Nat) (h6 : F.fn (ρ.f 6)) (h8 : F.fn (ρ.f 8)) (h9 : F.fn (ρ.f 9)) (h11 : F.fn (ρ.f 11)) (hro : F.round = none) (hn : 4 ≤ n) (hsort : AnyZ.SortsIn P ρ F (n - 1)) (e9 : ∀ args w, (callFunc (ρ.f 9) args).run P w = .ok (.enter (ρ.f 9) args) w) (g : Nat) (lb : Array Value) (hFg : F.fn g) (eg : ∀ args w, (callFunc g args).run P w = .ok (.enter g args) w)
    (S : List (List UInt8) → Prop) (N : Nat) (hN : N ≤ maxLen) (hNb : N * 16 ≤ 140737488355328) (w : World) (hseq : SeqGivesB F (n - 1 - 1 - 1) P g lb encStr (fun xs => S xs ∧ xs.length ≤ N) N w) :
    CallsIn F n P (ρ.f 6) #[.func (.func g) #[] lb] w fun e w' => ∃ (v : Value) (ss : List (List UInt8)), e = .returned v ∧ S ss ∧
      w'.ownsRow w.heap.size (ρ.t 26) 1 v ss.length ((ss.mergeSort (fun x y => decide (x ≤ y))).map encStr) ∧ (v = .slice none 0 0 ↔ ss = []) ∧ Below w.heap.size w w' := by
  have h1 : 1 ≤ n := by omega
  have e8 : ∀ args w, (callFunc (ρ.f 8) args).run P w = .ok (.enter (ρ.f 8) args) w := L.f8.enters rfl
  have mixed := L.mixed; have t0 := L.t0; have a0 := L.a0; have z0 := L.z0; have v0 := L.v0; have t24 := L.t24; have a24 := L.a24; have z24 := L.z24; have v24 := L.v24; have t26 := L.t26; have a26 := L.a26; have z26 := L.z26; have v26 := L.v26; have t28 := L.t28; have a28 := L.a28; have z28 := L.z28; have v28 := L.v28
  have u0 := run_underlying L.t0; have u24 := run_underlying L.t24; have u26 := run_underlying L.t26; have u28 := run_underlying L.t28
  obtain ⟨_, _, FG⟩ := L.f6
  refine callsIn_of_wp FG rfl h6 ?_ hro
  simp only [SlBodyZ.n6_ntmps ρ, List.size_toArray, List.length_cons, List.length_nil, Nat.reduceAdd, Nat.reduceSub, Array.replicate_succ, Array.replicate_zero, List.push_toArray, List.append_toArray, List.nil_append, List.cons_append]
  gi_wp2_with (gi_at_fn (ρ.f 8); refine (collectB { L with } F (n - 1) h8 h11 hro (by omega) g lb hFg eg _ N hN hNb _ hseq).mono ?_; rintro e W ⟨v, ss, rfl, ⟨hS, hlen⟩, hrow, hnil, hb⟩)
  rcases hrow.2 with ⟨rfl, hz⟩ | ⟨gb, cap, cur, rfl, hbase, hgb, r1, r2, r3, r4⟩
  ·
    have hss : ss = [] := List.eq_nil_of_length_eq_zero hz
    subst hss
    gi_wp2_with (gi_at_fn (ρ.f 9); refine (hsort.2 none 0 W).mono ?_; rintro e w' ⟨rfl, rfl⟩)
    go_ret
    exact ⟨.slice none 0 0, [], rfl, hS, by simpa using hrow, by simp, hb⟩
  · have hH : Holds encStr W gb 0 ss.toArray := holds_of_block hgb (by simpa using r4)
    have hgl : gb < W.heap.size := (Array.getElem?_eq_some_iff.1 hgb).1
    have hsz : ss.length < 4611686018427387904 := by omega
    have cS := hsort.1 gb 0 cap ss W hH hgl hsz
    gi_wp2_with (gi_at_fn (ρ.f 9); refine cS.mono ?_; rintro e w' ⟨rfl, nn, os, rfl⟩)
    go_ret
    exact ⟨_, ss, rfl, hS, ownsRow_sorted (by simp) hbase hgb r1 r2 r3, hnil, hb.grown (grownBy_sorted _) hb.size (fun j hj => by cases hj; exact hbase)⟩
end Go.Proofs
end
section
namespace Go.Proofs
open Go.RowKit Go.Shelf
attribute [local go_sem] Oper.semAt_some
set_option maxRecDepth 100000 in
set_option maxHeartbeats 2000000 in
theorem values1B (n l Bs n₀ b off cap : Nat) (zs : List (List UInt8)) (hn : 1 ≤ n) (hreach : zs.length * 16 ≤ 140737488355328) (hb : b < n₀) (J : List (List UInt8) → World → Prop)
    (hJ : ∀ pre W, J pre W → pre.length ≤ zs.length → ∀ j (hj : j < zs.length), W.cell? ⟨b, off + j, none⟩ = some (encStr zs[j]) ∧ W.cell? ⟨Bs, 0, none⟩ = some (.slice (some ⟨b, off, none⟩) zs.length cap))
    (hY : ∀ pre x W, J pre W → pre.length < zs.length → YieldAt Fence.wide (n - 1) Tryz.prog l #[encStr x] W fun e W' => e = .returned (.bool true) ∧ J (pre ++ [x]) W' ∧ KeepsWalks W W')
    (W : World) (hBs : W.cell? ⟨Bs, 0, none⟩ = some (.slice (some ⟨b, off, none⟩) zs.length cap)) (h0 : J [] W) :
    CallsIn Fence.wide n Tryz.prog 116 #[.func (.yield l) #[] #[], .pointer (some ⟨Bs, 0, none⟩)] W fun e W' => (∃ v, e = .returned v) ∧ J zs W' := by
  refine callsIn_of_wp Tryz.func116 rfl trivial ?_ rfl
  simp only [Tryz.ntmps116, List.size_toArray, List.length_cons, List.length_nil, Nat.reduceAdd, Nat.reduceSub, Array.replicate_succ, Array.replicate_zero, List.push_toArray, List.append_toArray, List.nil_append, List.cons_append]
  gi_wp2
  gi_loopw [7] (fun i wr => ∃ k : Nat, k ≤ zs.length ∧ i = .int .i64 k ∧ J (zs.take k) wr)
    (fun i _ => zs.length - (intOf i).toNat)
  case atStart => exact ⟨0, Nat.zero_le _, rfl, h0⟩
  case round =>
    obtain ⟨k, hk, rfl, hJs⟩ := hrel
    by_cases hlt : k < zs.length
    · obtain ⟨fn, tmps, assign, body, hy, hR⟩ := hY _ zs[k] wr hJs (by rw [List.length_take]; omega)
      have hcx : wr.cell? ⟨b, off + k, none⟩ = some (encStr zs[k]) := (hJ _ _ hJs (by rw [List.length_take]; omega) k hlt).1
      unfold encStr at hcx hy
      gi_wp2
      refine hR.mono ?_
      rintro e W3 ⟨rfl, hJ3, _⟩
      gi_wp2
      go_roundw
      case rel => exact ⟨k + 1, by omega, by simp, by rw [List.take_succ_eq_append_getElem hlt]; exact hJ3⟩
      case measure => simp [intOf]; omega
    · obtain rfl : k = zs.length := by omega
      gi_wp2
      go_end0
      exact ⟨⟨_, rfl⟩, by rw [List.take_length] at hJs; exact hJs⟩
set_option maxRecDepth 100000 in
set_option maxHeartbeats 1000000 in
theorem values1B_nil (n l Bs cap : Nat) (a : Option Addr) (J : List (List UInt8) → World → Prop) (W : World) (hBs : W.cell? ⟨Bs, 0, none⟩ = some (.slice a 0 cap)) (h0 : J [] W) :
    CallsIn Fence.wide n Tryz.prog 116 #[.func (.yield l) #[] #[], .pointer (some ⟨Bs, 0, none⟩)] W fun e W' => (∃ v, e = .returned v) ∧ J [] W' := by
  refine callsIn_of_wp Tryz.func116 rfl trivial ?_ rfl
  simp only [Tryz.ntmps116, List.size_toArray, List.length_cons, List.length_nil, Nat.reduceAdd, Nat.reduceSub, Array.replicate_succ, Array.replicate_zero, List.push_toArray, List.append_toArray, List.nil_append, List.cons_append]
  gi_wp2
  gi_loopw [7] (fun i wr => i = .int .i64 0 ∧ J [] wr) (fun _ _ => 0)
  case atStart => exact ⟨rfl, h0⟩
  case round =>
    obtain ⟨rfl, hJs⟩ := hrel
    gi_wp2
    go_end0
    exact ⟨⟨_, rfl⟩, hJs⟩
end Go.Proofs
end
section
set_option linter.unusedVariables false
namespace Go.Av
open Go.Proofs Go.RowKit Go.Sort Go.Shelf
theorem sortsIn (m : Nat) : AnyZ.SortsIn Tryz.prog Tryz.sortedA_ren Fence.wide m :=
  ⟨fun blk off cap ss W hH hblk hsz => callsIn_wide.2 (AnyM.slices_Sort_string Tryz.sortA blk off cap ss W hH hblk hsz),
   fun p cap W => callsIn_wide.2 (AnyM.slices_Sort_string_none Tryz.sortA p cap W)⟩
theorem sorted_ac [Known] (l : List ByteArray) (hl : l.length ≤ 1099511627776) :
    AC Tryz.prog 90 [(0, .box [.d (.sl .any (l.map fun s => [.s s]))])] [.clo 116 [.ptr 0 0]] fun _ _ r o =>
      r = .own 40 ∧ o = [(40, .arr .any 1 ((sStr l).map fun s => [.s s]))] := by
  intro w S β vs _ hbS hkn hvl hr _ hth
  have h1 := hr 0 (by simp) (by rw [← hvl]; simp)
  have hob := (hth.objs 0 _ (lk_cons_eq _ _ _)).1
  have hvs : ∀ v, vs[0]'(by rw [← hvl]; simp) = v → vs = #[v] := by
    intro v e
    apply Array.ext
    · simpa using hvl.symm
    · intro i hi hj
      have : i = 0 := by simpa using hj
      subst this
      simpa using e
  simp only [List.getElem_cons_zero] at h1
  generalize hv : vs[0]'(by rw [← hvl]; simp) = v at h1
  have hvs := hvs v hv
  clear hv
  subst hvs
  have ho : ∀ k ob, lk k [(0, Obj.box [TV.d (.sl .any (l.map fun s => [T.s s]))])] = some ob → k = 0 ∧ ob = .box [TV.d (.sl .any (l.map fun s => [T.s s]))] := by
    intro k ob hk
    by_cases hk0 : k = 0
    · subst hk0; rw [lk_cons_eq] at hk; cases hk; exact ⟨rfl, rfl⟩
    · rw [lk_cons_ne _ _ hk0] at hk; cases hk
  have ho40 : ∀ k ob, lk k [(40, Obj.arr .any 1 ((sStr l).map fun s => [T.s s]))] = some ob → k = 40 ∧ ob = .arr .any 1 ((sStr l).map fun s => [T.s s]) := by
    intro k ob hk
    by_cases hk0 : k = 40
    · subst hk0; rw [lk_cons_eq] at hk; cases hk; exact ⟨rfl, rfl⟩
    · rw [lk_cons_ne _ _ hk0] at hk; cases hk
  obtain ⟨lb, rfl, hlb⟩ : ∃ lb, v = .func (.func 116) #[] lb ∧ lb = #[.pointer (some ⟨(β 0).blk, 0, none⟩)] := by
    cases h1 with
    | @clo _ _ lb hl h =>
      refine ⟨lb, rfl, ?_⟩
      have hx := h 0 (by simp) (by rw [← hl]; simp)
      simp only [List.getElem_cons_zero] at hx
      generalize hy : lb[0]'(by rw [← hl]; simp) = y at hx
      cases hx
      apply Array.ext
      · simpa using hl.symm
      · intro i hi hj
        have : i = 0 := by simpa using hj
        subst this
        simpa using hy
  subst hlb
  obtain ⟨sv, hbt, hcell, hrep⟩ : ∃ sv, (β 0).blk < w.heap.size ∧ w.cell? ⟨(β 0).blk, 0, none⟩ = some sv ∧ Rep w S (.sl .any (l.map fun s => [T.s s])) sv := by
    cases hob with
    | @box _ vs e hv hb hl h =>
      have hx := h 0 (by simp) (by rw [← hl]; simp)
      refine ⟨vs[0]'(by rw [← hl]; simp), ?_, ?_, ?_⟩
      · rcases Nat.lt_or_ge (β 0).blk w.heap.size with h | h
        · exact h
        · rw [Array.getElem?_eq_none h] at hb; cases hb
      · rw [cell_of_block hb, Array.getElem?_eq_getElem (by rw [← hl]; simp)]
      · simp only [List.getElem_cons_zero] at hx
        cases hx with
        | d h => exact h
  have hseq : SeqGivesB Fence.wide 4 Tryz.prog 116 #[.pointer (some ⟨(β 0).blk, 0, none⟩)] encStr (fun xs => xs = (l.map fun s => s.data.toList) ∧ xs.length ≤ l.length) l.length w := by
    intro ll J W hW _ hJB hY h0
    have hc' : W.cell? ⟨(β 0).blk, 0, none⟩ = some sv := (hW.cell (p := ⟨(β 0).blk, 0, none⟩) hbt).trans hcell
    generalize hes : (l.map fun s => [T.s s]) = es at hrep
    cases hrep with
    | nil _ a cap =>
      have : l = [] := List.map_eq_nil_iff.1 hes
      subst this
      exact (values1B_nil 4 ll _ cap a J W hc' h0).mono fun e W' ⟨he, hj⟩ => ⟨he, [], ⟨rfl, by simp⟩, hj⟩
    | sl _ _ B off m cap vv hb hnm hm0 hm hcap hs hc hr =>
      have hlen : es.length = l.length := by rw [← hes]; simp
      by_cases hz : l.length = 0
      · have : l = [] := List.eq_nil_of_length_eq_zero hz
        subst this
        have hes0 : es = [] := by rw [← hes]; rfl
        subst hes0
        exact (values1B_nil 4 ll _ cap _ J W hc' h0).mono fun e W' ⟨he, hj⟩ => ⟨he, [], ⟨rfl, by simp⟩, hj⟩
      · have hm1 : m = 1 := by
          subst hes
          have := hm ((l.map fun s => [T.s s])[0]'(by simp; omega)) (List.getElem_mem _)
          simpa using this.symm
        subst hm1
        have hcs : ∀ j (hj : j < l.length), w.cell? ⟨B, off + j, none⟩ = some (.string l[j]) := by
          intro j hj
          subst hes
          have g1 := hc j 0 (by simpa using hj) (by simp)
          have g2 := hr j 0 (by simpa using hj) (by simp)
          simp only [List.getElem_map, List.getElem_cons_zero, Nat.mul_one, Nat.add_zero] at g1 g2
          rw [g1]
          generalize vv j 0 = y at g2
          cases g2
          rfl
        have hB : B < w.heap.size := by
          subst hes
          exact hbS B _ (hs 0 0 (by simp; omega) (by simp))
        have hzl : (l.map fun s => s.data.toList).length = l.length := by simp
        rw [hlen, ← hzl] at hc'
        refine (values1B 4 ll (β 0).blk w.heap.size B off cap (l.map fun s => s.data.toList) (by omega) (by rw [hzl]; omega) hB J ?_ (by rw [hzl]; exact hY) W hc' h0).mono ?_
        · intro pre W1 hj1 _ j hj
          have hB1 := hJB pre W1 hj1
          refine ⟨?_, ?_⟩
          · rw [hB1.cell (p := ⟨B, off + j, none⟩) hB, hcs j (by rw [hzl] at hj; exact hj)]
            simp [encStr]
          · rw [hzl, ← hlen]
            exact (hB1.cell (p := ⟨(β 0).blk, 0, none⟩) hbt).trans hcell
        · rintro e W' ⟨he, hj⟩
          exact ⟨he, _, ⟨rfl, by simp⟩, hj⟩
  have hmx : maxLen = 9223372036854775807 := by decide
  have cS := sortedB (ρ := Tryz.sortedA_ren) Tryz.sortedA Fence.wide 7 trivial trivial trivial trivial rfl (by omega) (sortsIn _) (enters_of Tryz.func115 (by kernel_rfl) rfl) 116 _ trivial
    (enters_of Tryz.func116 (by kernel_rfl) rfl) (fun xs => xs = l.map fun s => s.data.toList) l.length (by omega) (by omega) w hseq
  refine (callsIn_wide.1 cS).mono ?_
  rintro e w' ⟨v, ss, rfl, rfl, hrow, hnil, hbel⟩
  have hslen : (l.map fun s => s.data.toList).length = l.length := by simp
  have hst : ∀ b x, S b x → w'.cell? ⟨b, x, none⟩ = w.cell? ⟨b, x, none⟩ := fun b x h => hbel.cell (p := ⟨b, x, none⟩) (hbS b x h)
  have fin : ∀ (pl : Pl), (pl.live = true → w.heap.size ≤ pl.blk) → RV Tryz.prog w' S (fun k => if k = 40 then pl else β k) (.own 40) v → OV Tryz.prog w' S (fun k => if k = 40 then pl else β k) 40 (.arr .any 1 ((sStr l).map fun s => [.s s])) →
      ∃ r v1 S' β' outs, Ending.returned v = .returned v1 ∧ (r = .own 40 ∧ outs = [(40, .arr .any 1 ((sStr l).map fun s => [.s s]))]) ∧ RV Tryz.prog w' S' β' r v1 ∧ r.ok (· ∈ keysOf outs) ∧
      There Tryz.prog w' S' β' outs ∧ (∀ k, k < 40 → β' k = β k) ∧ (∀ k ob, lk k outs = some ob → ∀ x, foot (β' k) x → (k < 40 ∧ (ob.writable = true → InX [(0, .box [.d (.sl .any (l.map fun s => [.s s]))])] β x)) ∨ InX [(0, .box [.d (.sl .any (l.map fun s => [.s s]))])] β x ∨ w.heap.size ≤ x) ∧
      (∀ k ob, lk k outs = some ob → k < 40 → k ∈ keysOf [(0, Obj.box [.d (.sl .any (l.map fun s => [.s s]))])]) ∧ ExtX false (InX [(0, .box [.d (.sl .any (l.map fun s => [.s s]))])] β) w S w' S' := by
    intro pl hpl hrv hov
    refine ⟨_, v, S, _, _, rfl, ⟨rfl, rfl⟩, hrv, by simp [TV.ok, keysOf], ⟨?_, ?_, ?_⟩, ?_, ?_, ?_, ⟨⟨fun _ _ h => h, fun _ _ h => .inl h, fun b o h => Nat.lt_of_lt_of_le (hbS b o h) hbel.size, ⟨hbel.os, hbel.tape, hbel.output, hbel.size, fun k hk _ => hbel.block k hk⟩⟩, fun _ _ => Iff.rfl⟩⟩
    · intro k ob hk
      obtain ⟨rfl, rfl⟩ := ho40 k ob hk
      exact ⟨hov, trivial⟩
    · intro k k' ob ob' hk hk' hne
      obtain ⟨rfl, rfl⟩ := ho40 k ob hk
      obtain ⟨rfl, rfl⟩ := ho40 k' ob' hk'
      exact absurd rfl hne
    · intro k ob hk _ x hx z hz
      obtain ⟨rfl, rfl⟩ := ho40 k ob hk
      obtain ⟨h1, h2⟩ := hx
      simp only [if_true] at h1 h2
      have := hpl h1
      have := hbS x z hz
      omega
    · intro k hk
      show (if k = 40 then pl else β k) = β k
      rw [if_neg (by omega)]
    · intro k ob hk x hx
      obtain ⟨rfl, rfl⟩ := ho40 k ob hk
      obtain ⟨h1, h2⟩ := hx
      simp only [if_true] at h1 h2
      exact .inr (.inr (by rw [h2]; exact hpl h1))
    · intro k ob hk hlt
      obtain ⟨rfl, rfl⟩ := ho40 k ob hk
      omega
  rcases hrow.2 with ⟨rfl, hz⟩ | ⟨g, cap, cur, rfl, hbase, hgb, r1, r2, r3, r4⟩
  · have : l = [] := List.eq_nil_of_length_eq_zero (by rw [← hslen]; exact hz)
    subst this
    refine fin ⟨false, 0, 0, 0, 1⟩ (fun h => by cases h) ?_ ?_
    · exact .own 40 none (fun h => by simp at h)
    · have hs0 : sStr [] = [] := by simp [sStr]
      rw [hs0]
      exact OV.arrN (by simp) (by simp) Nat.one_pos (by simp) (by simp)
  · rw [hslen] at r1
    refine fin ⟨true, g, l.length, cap, 1⟩ (fun _ => hbase) ?_ ?_
    · rw [hslen]
      exact .own 40 (some ⟨g, 0, none⟩) (fun _ => rfl)
    · refine .arr rfl hgb ⟨trivial, fun q h => by cases h⟩ rfl (by omega) (by simp [sStr_len]) (by rw [List.length_map, sStr_len]; exact r1) r2 r3 ⟨?_, ?_⟩ (fun t ht => by cases ht)
      · intro x hx
        obtain ⟨s, _, rfl⟩ := List.mem_map.1 hx
        rfl
      · intro i j hi hj
        have hi' : i < (sStr l).length := by simpa using hi
        have hj0 : j = 0 := by simpa using hj
        subst hj0
        have hi2 : i < l.length := by rw [sStr_len] at hi'; exact hi'
        have hget : cur[i]? = some (.string (sStr l)[i]) := by
          have : cur.toList[i]? = (cur.toList.take (l.length * 1))[i]? := by rw [List.getElem?_take, if_pos (by omega)]
          rw [← Array.getElem?_toList, this, ← hslen, r4]
          rw [List.getElem?_map, List.getElem?_eq_getElem (by rw [List.length_mergeSort, hslen]; exact hi2)]
          simp [sStr, encStr]
        refine ⟨_, by rw [Nat.mul_one, Nat.add_zero]; exact hget, ?_⟩
        have : ((sStr l).map fun s => [T.s s])[i][0]'hj = .s (sStr l)[i] := by simp
        rw [this]
        exact .s _
def unS : List (List T) → Option (List ByteArray)
  | [] => some []
  | [.s x] :: l => (unS l).map (x :: ·)
  | _ => none
theorem unS_map (l : List ByteArray) : unS (l.map fun s => [T.s s]) = some l := by
  induction l with
  | nil => rfl
  | cons a l ih => simp only [List.map_cons, unS, ih, Option.map_some]
theorem unS_eq : ∀ {es : List (List T)} {l : List ByteArray}, unS es = some l → es = l.map fun s => [T.s s]
  | [], l, h => by simp only [unS, Option.some.injEq] at h; subst h; rfl
  | e :: es, l, h => by
    unfold unS at h
    split at h
    · rename_i h0; cases h0
    · rename_i x l' h0
      cases h0
      cases hx : unS es with
      | none => rw [hx] at h; cases h
      | some m =>
        rw [hx] at h
        simp only [Option.map_some, Option.some.injEq] at h
        subst h
        rw [List.map_cons, ← unS_eq hx]
    · cases h
def sortedO (v : FuncId) : Objs → List TV → Option (TV × Objs)
  | [(0, .box [.d (.sl .any es)])], [.clo g [.ptr 0 0]] => ob (chk (g == v)) fun _ => ob (unS es) fun l => ob (chk (decide (l.length ≤ 1099511627776))) fun _ => some (.own 40, [(40, .arr .any 1 ((sStr l).map fun s => [.s s]))])
  | _, _ => none
theorem sortedO_ac [Known] : ∀ ins args r, sortedO 116 ins args = some r → Plainly Tryz.prog 90 ∧ AC Tryz.prog 90 ins args fun _ _ r' o' => r' = r.1 ∧ o' = r.2 := by
  intro ins args r h
  unfold sortedO at h
  split at h
  · rename_i es g
    obtain ⟨_, h1, h⟩ := ob_eq_some h
    obtain ⟨l, h2, h⟩ := ob_eq_some h
    obtain ⟨_, h3, h⟩ := ob_eq_some h
    cases h
    have h1 := eq_of_beq (chk_eq_some h1)
    have h2 := unS_eq h2
    have h3 := of_decide_eq_true (chk_eq_some h3)
    subst h1
    subst h2
    exact ⟨⟨_, Tryz.func90, rfl, by decide⟩, sorted_ac l h3⟩
  · cases h
theorem sortedO_eq (v : FuncId) (l : List ByteArray) (hl : l.length ≤ 1099511627776) : sortedO v [(0, .box [.d (.sl .any (l.map fun s => [.s s]))])] [.clo v [.ptr 0 0]] = some (.own 40, [(40, .arr .any 1 ((sStr l).map fun s => [.s s]))]) := by
  simp only [sortedO, beq_self_eq_true, unS_map, decide_eq_true hl, chk, ob, if_true]
end Go.Av
end
