/- CheckSays, where what it reads is of bulk at most 1048576: the law returns true, and the argument reads afterwards as it did; the listed variables are those that the program's text lays. -/
import Derived.Test.YtnahenbiipdlkaaGreatDoorRows
import Derived.Test.YtnahenbiipdlkaaGreatDoorCards
import Derived.Test.YtnahenbiipdlkaaGreatDoorTie
import Derived.Test.YtnahenbiipdlkaaGreatDoorChecked
import Derived.Test.YtnahenbiipdlkaaGreatDoorRdc
import Derived.Test.YtnahenbiipdlkaaGreatDoorWzL
import Derived.Test.YtnahenbiipdlkaaGreatDoorWyA
import Derived.ProofKit
import Derived.SizedLaws
import Derived.LaidMore
import Derived.Lay
import Derived.OpenShut
import Derived.JoinedCond
import Derived.Deep.CondSized
import Derived.Deep.DeepHandedRow
import Derived.Lib.LaidTab
import Derived.Stop.LaidErr
import Derived.SevenTiedAt
namespace Go.Proofs.YtnahenbiipdlkaaGreatDoor
open Go Go.ChangeShapes Go.WideShapes Go.ChangeAt Go.RowKit Go.ba Go.ChangeMaps
theorem TR:ownKnob Tryz.prog.godebug=none:=by kernel_rfl
theorem TS:laidOutB Tryz.prog=true:=by kernel_rfl
theorem JG:Tryz.prog.globalNamed "internal/strconv.uint64pow10"=some 1:=by kernel_rfl
theorem JH:Tryz.prog.globalNamed "strconv.ErrSyntax"=some 2:=by kernel_rfl
theorem TT:(Tryz.prog.globals[2]?).map (·.type)=some 34:=by kernel_rfl
theorem TU:(Tryz.prog.globals[1]?).map (·.type)=some 281:=by kernel_rfl
theorem TV:Tryz.prog.cellsOf 281=20:=by kernel_rfl
theorem TW:Tryz.prog.cellsOf 173=1:=by kernel_rfl
theorem TX:Tryz.prog.cellsOf 308=1:=by kernel_rfl
theorem strCells:Tryz.prog.cellsOf 9=1:=by kernel_rfl
theorem star: "*"++ "errors.errorString"= "*errors.errorString":=by decide
theorem TY (u:TypeId) (h:Tryz.prog.typeName? 3 u=some "*errors.errorString"):u=306:=
 typeName_ptr_named (nm:= "errors.errorString") (by rw [star];kernel_rfl) (by kernel_rfl) (by decide) u (by rw [star];exact h)
theorem Vw {H:Type}:(Rows.laid_internal_strconv_uint64pow10:DataW H)=Lib.tabData .u64 Lib.pow10Tab:=rfl
theorem tables {W:World} (h:laidMetH Tryz.prog Rows.checkSaysUptoRow.laid W):∃e z aC z2 la p,W.heap[1]?=some (.cells (Lib.pow10Tab.map (Value.int .u64)).toArray e z)∧W.heap[2]?=some (.cells #[.iface la p] aC z2):=by
 have J:laidMet Tryz.prog Rows.checkSaysUptoRow.laid W:=by rwa [MakeChecks.laidMetH_plain _ _ _ (by kernel_rfl)] at h
 have aa:Lib.TabIs Tryz.prog W "internal/strconv.uint64pow10" .u64 Lib.pow10Tab:=
  Lib.tabIs_of_head JG TU Tryz.underlying281 Tryz.underlying173 TW TV J.tail.tail
 obtain ⟨a,s,ai,_,_,_⟩:=laid_sentinel J.tail.tail.tail.tail JH TT Tryz.underlying34 TY Tryz.underlying306 Tryz.underlying308 rfl rfl Tryz.underlying9 TX strCells
 simp only [Lib.TabIs,World.var?,JG,Option.bind_some] at aa
 simp only [World.var?,JH,Option.bind_some] at ai
 split at aa
 · rename_i cs e z aT
   simp only [Option.some.injEq] at aa
   rw [aa] at aT
   split at ai
   · rename_i Ov aC z2 JI
     simp only [Option.some.injEq] at ai
     rw [ai] at JI
     exact ⟨e,z,aC,z2,_,_,aT,JI⟩
   · cases ai
 · cases aa
theorem JJ:kl (bk:=@Rows.uptoBulk) (bkA:=@Rows.uptoBulkAll) where
 cons d l:=by simp only [Rows.uptoBulkAll]
 slice e s:=by simp only [Rows.uptoBulk];omega
 agg p:=by simp only [Rows.uptoBulk];omega
theorem TZ {H:Type} (d:DataW H):1≤Rows.uptoBulk d:=by
 unfold Rows.uptoBulk;split<;>omega
def JK (e:TypeId) (z:Nat×Nat) (aC:TypeId) (z2:Nat×Nat) (la:TypeId) (p:Value):Nat→Option Bw:=fun b=>
 if b=1 then some ⟨e,z,(Lib.pow10Tab.map (Value.int .u64)).toArray⟩ else if b=2 then some ⟨aC,z2,#[.iface la p]⟩ else none
set_option maxRecDepth 100000 in
theorem lifted (os:Os) (started:os.Started) (H:Type) (enc:TypeId×Value→H) (F:Stop.Interp):
 ReturnsInHanded {} Tryz.checked os 4 .any ((Rows.OpenSpec.upto Rows.checkSaysSpec).preRow enc Tryz.prog Tryz.f4 Rows.checkSaysUptoRow.domain false Rows.checkSaysUptoRow.laid) (((Rows.OpenSpec.upto Rows.checkSaysSpec).at F).post enc Tryz.prog Tryz.f4 false true false false):=by
 have T0:∃places,DataW.whole enc Tryz.prog ((World.laidAll Tryz.prog os Rows.checkSaysUptoRow.laid).forCall (fun _ _=>0) ⟨#[],#[.slice none 0 0],[]⟩).memory Tryz.f4.params.toList Rows.checkSaysSpec.vars false #[Value.slice none 0 0].toList 8=some ([.nil],[],places):=⟨[],by kernel_rfl⟩
 obtain ⟨places,aq⟩:=T0
 refine returnsInHanded_of_row (C:=Tryz.checked) (s:=Rows.OpenSpec.upto Rows.checkSaysSpec) TR started (by kernel_rfl) Tryz.func4
  (witness_row_at (enc:=enc) (C:=Tryz.checked) false (World.laidAll Tryz.prog os Rows.checkSaysUptoRow.laid) _ (World.laidAll_os _ _ _) (by kernel_rfl) (by kernel_rfl) (by kernel_rfl)
    (OpenSpec.preRow_of_cond 8 aq (by kernel_rfl) (fun k ak=>by cases ak;kernel_rfl) (by kernel_rfl) (laidMet_laidAll _ (by kernel_rfl) (by kernel_rfl)))) ?_
 intro W base args fx gs before JL gH Vx ak cJ j7 _ _
 have ak:=ak _ rfl
 have w7:∀(j:Nat) t v,Tryz.f4.params[j]?=some t→args[j]?=some v→Value.okWide Tryz.prog W .any base t v:=JL
 have w2:=gH
 obtain ⟨p,q,JM,mV,rfl,LZ,hi⟩:=gH
 have dP:DataW.TrodAll enc Tryz.prog W 0 (fun _=>true) true Tryz.f4.params.toList args.toList fx p:=JM
 rw [Tryz.params4] at dP w7
 obtain ⟨v0,Vy,d0,Vz,VA,Ro,bA,f0,rfl,aG,Bu⟩:=trodAll_cons dP
 obtain ⟨aM,f1,rfl⟩:=trodAll_nil Bu
 subst f1
 subst f0
 obtain rfl:args=#[v0]:=by
  cases args
  simp_all
 clear bA aM
 obtain ⟨rfl,rfl⟩:=trodVars_none mV
 obtain ⟨Hw,T1,c0,rfl⟩:=okWide_slice (by rfl) (w7 0 47 v0 rfl rfl)
 obtain ⟨k8,z0,u3⟩:=km.arg (bk:=@Rows.uptoBulk) (f:=bj bB) (fun _=>pe JJ (by rfl) (by rfl) (by decide) (by decide) (fun _=>rfl) (fun _ _=>TL JJ TZ _)) (fun _=>rfl) rfl aG (MK (P:=Tryz.prog) (t:=47) cJ (j:=0) (by rw [Tryz.params4];rfl) rfl)
 have aO:=of_decide_eq_true ak
 simp only [List.append_nil,Rows.uptoBulkAll] at aO
 replace z0:(k8.map tU).sum≤_:=z0
 clear JM JL
 simp only [List.append_nil,List.append_assoc] at w2
 obtain ⟨e,z,aC,z2,la,pp,aV,T2⟩:=tables j7
 refine (OT (W:=W) (G:=JK e z aC z2 la pp) (avs:=[bj bB k8]) (cargs:=#[.slice Hw T1 c0])
  (Tu k8 (fun s al=>TN (by have:=wz tU al;omega)) _ _ ⟨e,z,aC,z2,la,pp,rfl,rfl⟩ ⟨rfl,fun b t ag=>by unfold vI;rw [ag];rfl⟩) rfl (fun b t ag=>?_) (fun i ad=>?_) ?_).mono fun e kL ⟨he,ag⟩=>?_
 · unfold JK at ag
   split at ag
   · obtain rfl:=Option.some.inj ag
     subst b
     refine ⟨aV,fun v bn=>?_⟩
     obtain ⟨n,_,rfl⟩:=List.mem_map.1 bn
     exact .u64 n
   · split at ag
     · obtain rfl:=Option.some.inj ag
       subst b
       refine ⟨T2,fun v bn=>?_⟩
       rw [List.mem_singleton.1 (show v∈[Value.iface la pp] from bn)]
       exact .iface _ _
     · cases ag
 · match i,ad with
   |0,_=>exact u3
   |_+1,ad=>exact absurd ad (by simp)
 · intro x aq
   rw [List.mem_singleton.1 aq]
   exact wA (f:=bB) (fun _=>List.cons_ne_nil _ _) TQ k8
 · subst he
   exact ⟨_,rfl,LX (tb:=4) rfl rfl Tryz.underlying4 TS (by kernel_rfl) w2 rfl ag⟩
theorem T3:Rows.CheckSaysUptoSaid:=
 OpenClaim.holds_of_cond 4 Tryz.f4 rfl rfl rfl rfl rfl rfl rfl ⟨rfl,rfl,rfl,rfl,rfl⟩ rfl rfl rfl rfl rfl (by kernel_rfl) Tryz.func4 (by kernel_rfl)
  (of_decide_eq_true (by kernel_rfl)) (by unfold Func.isWrapper;first|(rw [if_pos (by decide+kernel)];kernel_rfl)|(rw [if_neg (by decide+kernel)];exact ⟨rfl,rfl⟩))
  (fun os started H enc _ F=>by rw [OpenClaim.pre_eq_preRow];exact lifted os started H enc F)
theorem plain (f:FuncId) (fn:Func) (aN:Tryz.pinned.checked.prog.funcNamed "wavewright/wavewrightlaw.CheckSays"=some f) (uP:Tryz.pinned.checked.prog.funcs[f]?=some fn):
 true=Tryz.pinned.checked.prog.looks []∧∀(j:Nat) t,fn.params[j]?=some t→Tryz.pinned.checked.prog.wantsStandIn t=false:=by
 obtain rfl:f=4:=Option.some.inj ((show Tryz.prog.funcNamed "wavewright/wavewrightlaw.CheckSays"=some 4 by kernel_rfl).symm.trans aN) |>.symm
 obtain rfl:fn=Tryz.f4:=(Option.some.inj (Tryz.func4.symm.trans uP)).symm
 refine ⟨by kernel_rfl,fun j t aB=>?_⟩
 rw [Tryz.params4] at aB
 have hm:=Array.mem_of_getElem? aB
 simp only [List.mem_toArray,List.mem_cons,List.not_mem_nil,or_false] at hm
 subst hm
 exact (show Tryz.prog.wantsStandIn 47=false by kernel_rfl)
theorem checkSaysUptoCard_holds:Rows.CheckSaysUptoCardSaid:=
 Claim7.holds_tied_plain_at .later [] _ _ _ _ T3 (fun _ h=>by cases h) (by kernel_rfl) (fun _ h=>by cases h) checkSaysUpto_row_tie rfl ⟨rfl,rfl⟩ (by kernel_rfl) rfl plain (by kernel_rfl)
end Go.Proofs.YtnahenbiipdlkaaGreatDoor
