/- Several of my texts in one: MnL, Mn13. -/
import Derived.Test.YtjplnkkcmkpkbaaMA17
import Derived.Conc.WgGenN3
import Derived.Test.YtjplnkkcmkpkbaaMA12
import Derived.Test.YtjplnkkcmkpkbaaMA16
import Derived.Test.YtjplnkkcmkpkbaaMA10
set_option linter.unusedSimpArgs false
set_option linter.unusedVariables false
/- The machine: this program holds the library's wait group. -/
namespace Go.Proofs.Ytjplnkkcmkpkbaa
abbrev link : Go.Conc.Lib.WgLink := { add := 8, done := 11, wait := 12, relMerge := 14, disable := 15, enable := 16, inBubble := 17, associate := 18, fatal := 19, uOr := 20, uAdd := 21, raceRead := 22, uLoad := 23, uStore := 24, disassociate := 25, semrelease := 26, acquire := 29, isAssociated := 30, uCas := 31, raceWrite := 32, semacquire := 33, orU64 := 34, addU64 := 35, loadU64 := 36, storeU64 := 37, casU64 := 48, tWgP := 54, tUP := 56, tAssoc := 58, tWg := 50, tAU := 47, tU64 := 45, tUint := 62, tU32 := 48, tPU32 := 63, tPAU := 75, tPU64 := 77, tNoCopy := 42, tANoCopy := 43, tAlign64 := 44 }
theorem wgLib : Go.Conc.Lib.WgLib Try.prog link :=
  ⟨Try.func8, Try.func11, Try.func12, Try.func14, Try.func15, Try.func16, Try.func17, Try.func18, Try.func19, Try.func20, Try.func21, Try.func22, Try.func23, Try.func24, Try.func25, Try.func26, Try.func29, Try.func30, Try.func31, Try.func32, Try.func33, Try.func34, Try.func35, Try.func36, Try.func37, Try.func48, Try.underlying54, Try.runUnderlying54, Try.sizeOf54, Try.isAgg54, Try.zeroValue54, Try.underlying56, Try.runUnderlying56, Try.sizeOf56, Try.isAgg56, Try.zeroValue56, Try.underlying58, Try.runUnderlying58, Try.sizeOf58, Try.isAgg58, Try.zeroValue58, Try.underlying50, Try.runUnderlying50, Try.sizeOf50, Try.isAgg50, Try.zeroValue50, Try.underlying47, Try.runUnderlying47, Try.sizeOf47, Try.isAgg47, Try.zeroValue47, Try.underlying45, Try.runUnderlying45, Try.sizeOf45, Try.isAgg45, Try.zeroValue45, Try.underlying62, Try.runUnderlying62, Try.sizeOf62, Try.isAgg62, Try.zeroValue62, Try.underlying48, Try.runUnderlying48, Try.sizeOf48, Try.isAgg48, Try.zeroValue48, Try.underlying63, Try.runUnderlying63, Try.sizeOf63, Try.isAgg63, Try.zeroValue63, Try.underlying75, Try.runUnderlying75, Try.sizeOf75, Try.isAgg75, Try.zeroValue75, Try.underlying77, Try.runUnderlying77, Try.sizeOf77, Try.isAgg77, Try.zeroValue77, Try.underlying0, Try.runUnderlying0, Try.sizeOf0, Try.isAgg0, Try.zeroValue0, Try.underlying3, Try.runUnderlying3, Try.sizeOf3, Try.isAgg3, Try.zeroValue3, Try.underlying4, Try.runUnderlying4, Try.sizeOf4, Try.isAgg4, Try.zeroValue4, Try.underlying9, Try.runUnderlying9, Try.sizeOf9, Try.isAgg9, Try.zeroValue9, Try.underlying20, Try.runUnderlying20, Try.sizeOf20, Try.isAgg20, Try.zeroValue20, Try.underlying21, Try.runUnderlying21, Try.sizeOf21, Try.isAgg21, Try.zeroValue21, (by kernel_rfl), (by kernel_rfl)⟩
end Go.Proofs.Ytjplnkkcmkpkbaa
/- The machine, 13: the hand of many.Run: its start, its loop's head, its tail. -/
namespace Go.Proofs.Ytjplnkkcmkpkbaa
open Go.Conc Go.ConcN Go.RowKit Go.Conc.Lib Go.ConcR.Gen Go.ConcN.Gen
open Go.ConcR (KK wgBlock WgAt stA smA rd wr mk DC0)

abbrev b9 : Frame := baseD 9
noncomputable def bot : Frame := { (default : Frame) with fn := Try.prog.funcs.size, defers := [], mode := .panicking [goexitEntry] }
noncomputable def body9 : Code := Try.f9.body.getD .skip
theorem loud9 : (Try.prog.funcs[b9.fn]?).any (·.norace) = false := by kernel_rfl
def call9 (bc bj bo wg : Nat) : Deferred := { target := .fn (.func 9) #[.pointer (some ⟨bc, 0, none⟩), .pointer (some ⟨bj, 0, none⟩), .pointer (some ⟨bo, 0, none⟩), .pointer (some ⟨wg, 0, none⟩)], args := #[] }
/-- its four captured places -/
def caps (bc bj bo wg : Nat) : Array Value := #[.pointer (some ⟨bc, 0, none⟩), .pointer (some ⟨bj, 0, none⟩), .pointer (some ⟨bo, 0, none⟩), .pointer (some ⟨wg, 0, none⟩)]
theorem born_step (bc bj bo wg : Nat) (w : World) : stepG Try.prog false (born Try.prog (call9 bc bj bo wg)) w =
    .go (G (b9.at ⟨caps bc bj bo wg ++ Array.replicate 14 undef, []⟩ [.code body9]) [bot]) w #[] := by
  simp [born, call9, caps, stepG, unwind, callDeferred, invoke, callFunc, Try.func9, Try.f9, seen, GStep.after, G, Frame.enter, Frame.at, b9, baseD, bot, body9]
theorem quitsTail (T : Array Value) : QuitsD Try.prog 2 0 (G { b9.at ⟨T, []⟩ [] with mode := .returning } [bot]) := by
  refine QuitsD.ctl (g' := G bot []) rfl (fun w => ?_) ?_
  · simp [G, stepG, unwind, doReturn, results, Frame.at, b9, baseD, bot, Try.func9, Try.f9, seen, GStep.after, goexitEntry]
  refine QuitsD.ctl (g' := { G bot [] with status := .finished }) rfl (fun w => ?_) ⟨rfl, rfl⟩
  simp [G, stepG, unwind, bot, goexitEntry, Frame.catches]
  rfl

/-- what a hand knows of the world in which it is started -/
structure WF (q : Ph) (w0 : World) (bc bj bo : Nat) (slJ : Value) : Prop where
  lc : q.low bc
  lj : q.low bj
  lo : q.low bo
  chan : w0.cell? ⟨bc, 0, none⟩ = some (.chan (some q.Ch))
  jobs : w0.cell? ⟨bj, 0, none⟩ = some slJ
  out : w0.cell? ⟨bo, 0, none⟩ = some (.slice (some ⟨q.C, 0, none⟩) q.N q.N)
theorem low_cell {q : Ph} {w0 w : World} (h : RS q w0 w) {b o : Nat} (hb : q.low b) : w.cell? ⟨b, o, none⟩ = w0.cell? ⟨b, o, none⟩ := cell_of_eq (h.low b hb)
/-- its loop's body -/
noncomputable def loop9 : Code := match body9 with
  | .seq (.seq _ (.block _ (.loop c))) _ => c
  | _ => .skip
noncomputable def tail9 : Code := match body9 with
  | .seq _ c => c
  | _ => .skip

section
variable {q : Ph} {w0 w : World} {bc bj bo : Nat} {slJ : Value}
set_option maxRecDepth 100000 in
/-- from its start to its loop's head -/
theorem startW (hW : WF q w0 bc bj bo slJ) (hF : RS q w0 w ∧ WgLive q.ty q.Wg w) :
    Goes Try.prog false (RS q) (DKs q) (fun g w => g = G (b9.at ⟨(caps bc bj bo q.Wg).push undef |>.push (.chan (some q.Ch)) |> (· ++ Array.replicate 12 undef), []⟩ [.code loop9, .inLoop loop9, .inBlock 0, .code tail9]) [bot] ∧ (RS q w0 w ∧ WgLive q.ty q.Wg w)) 10 (born Try.prog (call9 bc bj bo q.Wg)) w := by
  refine Goes.step rfl fun w₁ h₁ => ?_
  replace hF := rs_rely hF h₁
  clear h₁
  rw [born_step]
  refine ⟨by ((first | refine dm_none ?_ | refine dks_none ?_ | u_none); intro e he; simp at he), ?_⟩
  simp only [body9, loop9, tail9, caps, Try.f9, Option.getD_some]
  walk_nrm
  refine Goes.step rfl (fun _ h₁ => ?_)
  replace hF := rs_rely hF h₁
  clear h₁
  rw [stepG_seq]
  simp only [goes_go]
  refine ⟨by ((first | refine dm_none ?_ | refine dks_none ?_ | u_none); intro e he; simp at he), ?_⟩
  refine Goes.step rfl (fun _ h₁ => ?_)
  replace hF := rs_rely hF h₁
  clear h₁
  rw [stepG_seq]
  simp only [goes_go]
  refine ⟨by ((first | refine dm_none ?_ | refine dks_none ?_ | u_none); intro e he; simp at he), ?_⟩
  refine Goes.step rfl (fun _ h₁ => ?_)
  replace hF := rs_rely hF h₁
  clear h₁
  rw [stepG_region]
  simp only [goes_go, List.size_toArray, List.length_cons, List.length_nil, Nat.reduceAdd, Nat.zero_add, List.range, List.range.loop]
  refine ⟨by ((first | refine dm_none ?_ | refine dks_none ?_ | u_none); intro e he; simp at he), ?_⟩
  refine Goes.step rfl (fun _ h₁ => ?_)
  replace hF := rs_rely hF h₁
  clear h₁
  refine goes_oper_k rfl rfl (by k_ne) (fun K hK => ?_)
  have h1 := (low_cell (o := 0) hF.1 hW.lc).trans hW.chan
  have h2 := (low_cell (o := 0) hF.1 hW.lj).trans hW.jobs
  have h3 := (low_cell (o := 0) hF.1 hW.lo).trans hW.out
  go_simp
  refine hK _ _ ⟨⟨⟨_, rfl⟩, fun e he => ?_⟩, ?_⟩
  · have hm := mem_listed he
    simp [go_sem, *] at hm
    subst hm
    first | exact ⟨_, rfl, hW.lc⟩ | exact ⟨_, rfl, hW.lj⟩ | exact ⟨_, rfl, hW.lo⟩
  clear hK K h1 h2 h3
  refine Goes.step rfl (fun _ h₁ => ?_)
  replace hF := rs_rely hF h₁
  clear h₁
  rw [stepG_region_end]
  simp only [goes_go]
  refine ⟨by ((first | refine dm_none ?_ | refine dks_none ?_ | u_none); intro e he; simp at he), ?_⟩
  refine Goes.step rfl (fun _ h₁ => ?_)
  replace hF := rs_rely hF h₁
  clear h₁
  rw [stepG_block]
  simp only [goes_go]
  refine ⟨by ((first | refine dm_none ?_ | refine dks_none ?_ | u_none); intro e he; simp at he), ?_⟩
  refine Goes.step rfl (fun _ h₁ => ?_)
  replace hF := rs_rely hF h₁
  clear h₁
  rw [stepG_loop]
  simp only [goes_go]
  refine ⟨by ((first | refine dm_none ?_ | refine dks_none ?_ | u_none); intro e he; simp at he), ?_⟩
  exact Goes.stop fun w₁ h₁ => ⟨rfl, rs_rely hF h₁⟩
end
end Go.Proofs.Ytjplnkkcmkpkbaa
