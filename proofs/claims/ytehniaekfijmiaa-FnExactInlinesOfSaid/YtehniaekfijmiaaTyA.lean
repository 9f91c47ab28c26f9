/- The laws' own types, as structures; the rows of cells that they are in memory. -/
import Derived.Test.YtehniaekfijmiaaSimO
namespace Go.Proofs.Ytehniaekfijmiaa
open Go.Sim Go.RowKit
def inI (n : Int) : Prop := -9223372036854775808 ≤ n ∧ n ≤ 9223372036854775807
def intRow (n : Int) : List Tr := [.int .i64 n]
def strRow (s : List UInt8) : List Tr := [.str s]
structure TOp where
  fCode : Int
  fArg : Int
def TOp.tr (x : TOp) : List Tr := [.int .i64 x.fCode, .int .i64 x.fArg]
def TOp.wf (x : TOp) : Prop := inI x.fCode ∧ inI x.fArg
structure TTok where
  fKind : Int
  fNum : Int
  fName : List UInt8
def TTok.tr (x : TTok) : List Tr := [.int .i64 x.fKind, .int .i64 x.fNum, .str x.fName]
def TTok.wf (x : TTok) : Prop := inI x.fKind ∧ inI x.fNum ∧ x.fName.length ≤ maxLen
structure TLine where
  fKind : Int
  fName : List UInt8
  fArgs : List (List UInt8)
  fExpr : List TTok
def TLine.tr (x : TLine) : List Tr := [.int .i64 x.fKind, .str x.fName, .lst 1 (x.fArgs.map strRow), .lst 3 (x.fExpr.map TTok.tr)]
def TLine.wf (x : TLine) : Prop := inI x.fKind ∧ x.fName.length ≤ maxLen ∧ (x.fArgs.length ≤ maxLen ∧ ∀ y ∈ x.fArgs, y.length ≤ maxLen) ∧ (x.fExpr.length ≤ maxLen ∧ ∀ y ∈ x.fExpr, y.wf)
structure TBuild where
  fFrames : Int
  fInline : Int
  fFold : Bool
  fSplit : Bool
def TBuild.tr (x : TBuild) : List Tr := [.int .i64 x.fFrames, .int .i64 x.fInline, .bool x.fFold, .bool x.fSplit]
def TBuild.wf (x : TBuild) : Prop := inI x.fFrames ∧ inI x.fInline
structure TItem where
  fOp : TOp
  fLine : Int
  fStart : Bool
  fChain : List Int
  fDepth : Int
  fEntered : Bool
def TItem.tr (x : TItem) : List Tr := [.int .i64 x.fOp.fCode, .int .i64 x.fOp.fArg, .int .i64 x.fLine, .bool x.fStart, .lst 1 (x.fChain.map intRow), .int .i64 x.fDepth, .bool x.fEntered]
def TItem.wf (x : TItem) : Prop := x.fOp.wf ∧ inI x.fLine ∧ (x.fChain.length ≤ maxLen ∧ ∀ y ∈ x.fChain, inI y) ∧ inI x.fDepth
structure TSymbol where
  fName : List UInt8
  fStart : Int
  fSize : Int
def TSymbol.tr (x : TSymbol) : List Tr := [.str x.fName, .int .i64 x.fStart, .int .i64 x.fSize]
def TSymbol.wf (x : TSymbol) : Prop := x.fName.length ≤ maxLen ∧ inI x.fStart ∧ inI x.fSize
structure TImage where
  fCode : List UInt8
  fSymbols : List TSymbol
def TImage.tr (x : TImage) : List Tr := [.str x.fCode, .lst 3 (x.fSymbols.map TSymbol.tr)]
def TImage.wf (x : TImage) : Prop := x.fCode.length ≤ maxLen ∧ (x.fSymbols.length ≤ maxLen ∧ ∀ y ∈ x.fSymbols, y.wf)
structure TSpace where
  fImages : List TImage
  fBases : List Int
  fEntries : List Int
def TSpace.tr (x : TSpace) : List Tr := [.lst 2 (x.fImages.map TImage.tr), .lst 1 (x.fBases.map intRow), .lst 1 (x.fEntries.map intRow)]
def TSpace.wf (x : TSpace) : Prop := (x.fImages.length ≤ maxLen ∧ ∀ y ∈ x.fImages, y.wf) ∧ (x.fBases.length ≤ maxLen ∧ ∀ y ∈ x.fBases, inI y) ∧ (x.fEntries.length ≤ maxLen ∧ ∀ y ∈ x.fEntries, inI y)
structure TMachine where
  fPc : Int
  fSp : Int
  fFp : Int
  fStack : List Int
  fOut : List Int
  fState : Int
  fValue : Int
def TMachine.tr (x : TMachine) : List Tr := [.int .i64 x.fPc, .int .i64 x.fSp, .int .i64 x.fFp, .lst 1 (x.fStack.map intRow), .lst 1 (x.fOut.map intRow), .int .i64 x.fState, .int .i64 x.fValue]
def TMachine.wf (x : TMachine) : Prop := inI x.fPc ∧ inI x.fSp ∧ inI x.fFp ∧ (x.fStack.length ≤ maxLen ∧ ∀ y ∈ x.fStack, inI y) ∧ (x.fOut.length ≤ maxLen ∧ ∀ y ∈ x.fOut, inI y) ∧ inI x.fState ∧ inI x.fValue
structure TPlace where
  fOffset : Int
  fItem : TItem
def TPlace.tr (x : TPlace) : List Tr := [.int .i64 x.fOffset, .int .i64 x.fItem.fOp.fCode, .int .i64 x.fItem.fOp.fArg, .int .i64 x.fItem.fLine, .bool x.fItem.fStart, .lst 1 (x.fItem.fChain.map intRow), .int .i64 x.fItem.fDepth, .bool x.fItem.fEntered]
def TPlace.wf (x : TPlace) : Prop := inI x.fOffset ∧ x.fItem.wf
structure TRule where
  fStart : Int
  fEnd : Int
  fFrame : Bool
  fDepth : Int
def TRule.tr (x : TRule) : List Tr := [.int .i64 x.fStart, .int .i64 x.fEnd, .bool x.fFrame, .int .i64 x.fDepth]
def TRule.wf (x : TRule) : Prop := inI x.fStart ∧ inI x.fEnd ∧ inI x.fDepth
structure TView where
  fPc : Int
  fSp : Int
  fFp : Int
  fWords : List Int
def TView.tr (x : TView) : List Tr := [.int .i64 x.fPc, .int .i64 x.fSp, .int .i64 x.fFp, .lst 1 (x.fWords.map intRow)]
def TView.wf (x : TView) : Prop := inI x.fPc ∧ inI x.fSp ∧ inI x.fFp ∧ (x.fWords.length ≤ maxLen ∧ ∀ y ∈ x.fWords, inI y)
structure TRow where
  fOffset : Int
  fLine : Int
  fStart : Bool
def TRow.tr (x : TRow) : List Tr := [.int .i64 x.fOffset, .int .i64 x.fLine, .bool x.fStart]
def TRow.wf (x : TRow) : Prop := inI x.fOffset ∧ inI x.fLine
structure TInline where
  fStart : Int
  fEnd : Int
  fLevel : Int
  fLine : Int
  fName : List UInt8
def TInline.tr (x : TInline) : List Tr := [.int .i64 x.fStart, .int .i64 x.fEnd, .int .i64 x.fLevel, .int .i64 x.fLine, .str x.fName]
def TInline.wf (x : TInline) : Prop := inI x.fStart ∧ inI x.fEnd ∧ inI x.fLevel ∧ inI x.fLine ∧ x.fName.length ≤ maxLen
structure TDebug where
  fId : Int
  fSymbols : List TSymbol
  fRules : List TRule
  fRows : List TRow
  fInlines : List TInline
def TDebug.tr (x : TDebug) : List Tr := [.int .i64 x.fId, .lst 3 (x.fSymbols.map TSymbol.tr), .lst 4 (x.fRules.map TRule.tr), .lst 3 (x.fRows.map TRow.tr), .lst 5 (x.fInlines.map TInline.tr)]
def TDebug.wf (x : TDebug) : Prop := inI x.fId ∧ (x.fSymbols.length ≤ maxLen ∧ ∀ y ∈ x.fSymbols, y.wf) ∧ (x.fRules.length ≤ maxLen ∧ ∀ y ∈ x.fRules, y.wf) ∧ (x.fRows.length ≤ maxLen ∧ ∀ y ∈ x.fRows, y.wf) ∧ (x.fInlines.length ≤ maxLen ∧ ∀ y ∈ x.fInlines, y.wf)
structure TFrame where
  fName : List UInt8
  fLine : Int
def TFrame.tr (x : TFrame) : List Tr := [.str x.fName, .int .i64 x.fLine]
def TFrame.wf (x : TFrame) : Prop := x.fName.length ≤ maxLen ∧ inI x.fLine
end Go.Proofs.Ytehniaekfijmiaa
