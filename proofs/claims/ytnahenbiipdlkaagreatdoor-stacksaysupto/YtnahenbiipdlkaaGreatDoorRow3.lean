/- StackSays, where what it reads is of bulk at most 1048576: the law returns true, and the arguments read afterwards as they did; the listed variables are those that the program's text lays. -/
import Derived.Test.YtnahenbiipdlkaaGreatDoorRows
import Derived.Test.YtnahenbiipdlkaaGreatDoorCards
import Derived.Test.YtnahenbiipdlkaaGreatDoorTie
import Derived.Test.YtnahenbiipdlkaaGreatDoorChecked
import Derived.Test.YtnahenbiipdlkaaGreatDoorRdd
import Derived.Test.YtnahenbiipdlkaaGreatDoorSv3
import Derived.Test.YtnahenbiipdlkaaGreatDoorWxz
import Derived.ProofKit
import Derived.SizedLaws
import Derived.LaidMore
import Derived.Lay
import Derived.OpenShut
import Derived.JoinedCond
import Derived.Deep.CondSized
import Derived.Deep.DeepHandedRow
import Derived.Lib.LaidTab
import Derived.Stop.LaidErr
import Derived.SevenTiedAt
namespace Go.Proofs.YtnahenbiipdlkaaGreatDoor
open Go Go.ChangeShapes Go.WideShapes Go.ChangeAt Go.RowKit Go.bg Go.ChangeMaps
theorem We:ownKnob Tryz.prog.godebug=none:=by kernel_rfl
theorem Wf:laidOutB Tryz.prog=true:=by kernel_rfl
theorem Mv:Tryz.prog.globalNamed "internal/strconv.uint64pow10"=some 1:=by kernel_rfl
theorem Mw:Tryz.prog.globalNamed "strconv.ErrSyntax"=some 2:=by kernel_rfl
theorem Wg:(Tryz.prog.globals[2]?).map (·.type)=some 34:=by kernel_rfl
theorem Wh:(Tryz.prog.globals[1]?).map (·.type)=some 281:=by kernel_rfl
theorem Wi:Tryz.prog.cellsOf 281=20:=by kernel_rfl
theorem Wj:Tryz.prog.cellsOf 173=1:=by kernel_rfl
theorem Wk:Tryz.prog.cellsOf 308=1:=by kernel_rfl
theorem strCells:Tryz.prog.cellsOf 9=1:=by kernel_rfl
theorem star: "*"++ "errors.errorString"= "*errors.errorString":=by decide
theorem Wl (u:TypeId) (h:Tryz.prog.typeName? 3 u=some "*errors.errorString"):u=306:=
 typeName_ptr_named (nm:= "errors.errorString") (by rw [star];kernel_rfl) (by kernel_rfl) (by decide) u (by rw [star];exact h)
theorem Yv {H:Type}:(Rows.laid_internal_strconv_uint64pow10:DataW H)=Lib.tabData .u64 Lib.pow10Tab:=rfl
theorem tables {W:World} (h:laidMetH Tryz.prog Rows.stackSaysUptoRow.laid W):∃e z az z2 tp p,W.heap[1]?=some (.cells (Lib.pow10Tab.map (Value.int .u64)).toArray e z)∧W.heap[2]?=some (.cells #[.iface tp p] az z2):=by
 have J:laidMet Tryz.prog Rows.stackSaysUptoRow.laid W:=by rwa [MakeChecks.laidMetH_plain _ _ _ (by kernel_rfl)] at h
 have aa:Lib.TabIs Tryz.prog W "internal/strconv.uint64pow10" .u64 Lib.pow10Tab:=
  Lib.tabIs_of_head Mv Wh Tryz.underlying281 Tryz.underlying173 Wj Wi J.tail.tail
 obtain ⟨a,s,aj,_,_,_⟩:=laid_sentinel J.tail.tail.tail.tail Mw Wg Tryz.underlying34 Wl Tryz.underlying306 Tryz.underlying308 rfl rfl Tryz.underlying9 Wk strCells
 simp only [Lib.TabIs,World.var?,Mv,Option.bind_some] at aa
 simp only [World.var?,Mw,Option.bind_some] at aj
 split at aa
 · rename_i cs e z aC
   simp only [Option.some.injEq] at aa
   rw [aa] at aC
   split at aj
   · rename_i Yw az z2 Mx
     simp only [Option.some.injEq] at aj
     rw [aj] at Mx
     exact ⟨e,z,az,z2,_,_,aC,Mx⟩
   · cases aj
 · cases aa
theorem My:kQ (bk:=@Rows.uptoBulk) (bkA:=@Rows.uptoBulkAll) where
 cons d l:=by simp only [Rows.uptoBulkAll]
 slice e s:=by simp only [Rows.uptoBulk];omega
 agg p:=by simp only [Rows.uptoBulk];omega
theorem Wm {H:Type} (d:DataW H):1≤Rows.uptoBulk d:=by
 unfold Rows.uptoBulk;split<;>omega
def Mz (e:TypeId) (z:Nat×Nat) (az:TypeId) (z2:Nat×Nat) (tp:TypeId) (p:Value):Nat→Option Ei:=fun b=>
 if b=1 then some ⟨e,z,(Lib.pow10Tab.map (Value.int .u64)).toArray⟩ else if b=2 then some ⟨az,z2,#[.iface tp p]⟩ else none
set_option maxRecDepth 100000 in
theorem lifted (os:Os) (started:os.Started) (H:Type) (enc:TypeId×Value→H) (F:Stop.Interp):
 ReturnsInHanded {} Tryz.checked os 5 .any ((Rows.OpenSpec.upto Rows.stackSaysSpec).preRow enc Tryz.prog Tryz.f5 Rows.stackSaysUptoRow.domain false Rows.stackSaysUptoRow.laid) (((Rows.OpenSpec.upto Rows.stackSaysSpec).at F).post enc Tryz.prog Tryz.f5 false true false false):=by
 have Wn:∃places,DataW.whole enc Tryz.prog ((World.laidAll Tryz.prog os Rows.stackSaysUptoRow.laid).forCall (fun _ _=>0) ⟨#[],#[.slice none 0 0, .string ByteArray.empty],[]⟩).memory Tryz.f5.params.toList Rows.stackSaysSpec.vars false #[Value.slice none 0 0, .string ByteArray.empty].toList 8=some ([.nil, .lit (.string [])],[],places):=⟨[],by kernel_rfl⟩
 obtain ⟨places,an⟩:=Wn
 refine returnsInHanded_of_row (C:=Tryz.checked) (s:=Rows.OpenSpec.upto Rows.stackSaysSpec) We started (by kernel_rfl) Tryz.func5
  (witness_row_at (enc:=enc) (C:=Tryz.checked) false (World.laidAll Tryz.prog os Rows.stackSaysUptoRow.laid) _ (World.laidAll_os _ _ _) (by kernel_rfl) (by kernel_rfl) (by kernel_rfl)
    (OpenSpec.preRow_of_cond 8 an (by kernel_rfl) (fun k al=>by cases al;kernel_rfl) (by kernel_rfl) (laidMet_laidAll _ (by kernel_rfl) (by kernel_rfl)))) ?_
 intro W base args gk gs before MA pE Yx al cF ea _ _
 have al:=al _ rfl
 have pJ:∀(j:Nat) t v,Tryz.f5.params[j]?=some t→args[j]?=some v→Value.okWide Tryz.prog W .any base t v:=MA
 have zB:=pE
 obtain ⟨p,q,MB,n5,rfl,Hm,k9⟩:=pE
 have dZ:DataW.TrodAll enc Tryz.prog W 0 (fun _=>true) true Tryz.f5.params.toList args.toList gk p:=MB
 rw [Tryz.params5] at dZ pJ
 obtain ⟨v0,Yy,d0,Yz,YA,Um,bM,f0,rfl,aJ,o4⟩:=trodAll_cons dZ
 obtain ⟨v1,YB,d1,YC,Ge,cq,aF,f1,rfl,J,jf⟩:=trodAll_cons o4
 obtain ⟨az,f2,rfl⟩:=trodAll_nil jf
 subst f2
 subst f1
 subst f0
 obtain rfl:args=#[v0,v1]:=by
  cases args
  simp_all
 clear bM aF az
 obtain ⟨rfl,rfl⟩:=trodVars_none n5
 obtain ⟨gy,Wo,c0,rfl⟩:=okWide_slice (by rfl) (pJ 0 47 v0 rfl rfl)
 obtain ⟨lQ,z0,j8⟩:=kR.arg (bk:=@Rows.uptoBulk) (f:=lj ey) (fun _=>qx My (by rfl) (by rfl) (by decide) (by decide) (fun _=>rfl) (fun _ _=>V8 My Wm _)) (fun _=>rfl) rfl aJ (HD (P:=Tryz.prog) (t:=47) cF (j:=0) (by rw [Tryz.params5];rfl) rfl)
 obtain ⟨cU,rfl⟩:=okWide_string (by rfl) (pJ 1 9 v1 rfl rfl)
 obtain ⟨MC,bp⟩:=Rd.arg (f:=cm) (fun _=>n9 (by rfl)) (fun _=>rfl) rfl J (HD (P:=Tryz.prog) (t:=9) cF (j:=1) (by rw [Tryz.params5];rfl) rfl)
 have aU:=of_decide_eq_true al
 simp only [List.append_nil,Rows.uptoBulkAll] at aU
 replace z0:(lQ.map wR).sum≤_:=z0
 clear MB MA
 simp only [List.append_nil,List.append_assoc] at zB
 obtain ⟨e,z,az,z2,tp,pp,aP,Au⟩:=tables ea
 refine (RB (W:=W) (G:=Mz e z az z2 tp pp) (avs:=[lj ey lQ,cm MC]) (cargs:=#[.slice gy Wo c0, .string cU])
  (VS lQ MC (fun s aw=>Wa (by have:=y4 wR aw;omega)) _ _ ⟨e,z,az,z2,tp,pp,rfl,rfl⟩ ⟨rfl,fun b t ah=>by unfold yj;rw [ah];rfl⟩) rfl (fun b t ah=>?_) (fun i ad=>?_) ?_).mono fun e lg ⟨he,ah⟩=>?_
 · unfold Mz at ah
   split at ah
   · obtain rfl:=Option.some.inj ah
     subst b
     refine ⟨aP,fun v bw=>?_⟩
     obtain ⟨n,_,rfl⟩:=List.mem_map.1 bw
     exact .u64 n
   · split at ah
     · obtain rfl:=Option.some.inj ah
       subst b
       refine ⟨Au,fun v bw=>?_⟩
       rw [List.mem_singleton.1 (show v∈[Value.iface tp pp] from bw)]
       exact .iface _ _
     · cases ah
 · match i,ad with
   |0,_=>exact j8
   |1,_=>exact bp
   |_+2,ad=>exact absurd ad (by simp)
 · intro x an
   simp only [List.mem_cons,List.not_mem_nil,or_false] at an
   rcases an with rfl|rfl
   · exact y6 (f:=ey) (fun _=>List.cons_ne_nil _ _) Wd lQ
   · exact .str _
 · subst he
   exact ⟨_,rfl,OM (tb:=4) rfl rfl Tryz.underlying4 Wf (by kernel_rfl) zB rfl ah⟩
theorem Wp:Rows.StackSaysUptoSaid:=
 OpenClaim.holds_of_cond 5 Tryz.f5 rfl rfl rfl rfl rfl rfl rfl ⟨rfl,rfl,rfl,rfl,rfl⟩ rfl rfl rfl rfl rfl (by kernel_rfl) Tryz.func5 (by kernel_rfl)
  (of_decide_eq_true (by kernel_rfl)) (by unfold Func.isWrapper;first|(rw [if_pos (by decide+kernel)];kernel_rfl)|(rw [if_neg (by decide+kernel)];exact ⟨rfl,rfl⟩))
  (fun os started H enc _ F=>by rw [OpenClaim.pre_eq_preRow];exact lifted os started H enc F)
theorem plain (f:FuncId) (fn:Func) (aZ:Tryz.pinned.checked.prog.funcNamed "wavewright/wavewrightlaw.StackSays"=some f) (xr:Tryz.pinned.checked.prog.funcs[f]?=some fn):
 true=Tryz.pinned.checked.prog.looks []∧∀(j:Nat) t,fn.params[j]?=some t→Tryz.pinned.checked.prog.wantsStandIn t=false:=by
 obtain rfl:f=5:=Option.some.inj ((show Tryz.prog.funcNamed "wavewright/wavewrightlaw.StackSays"=some 5 by kernel_rfl).symm.trans aZ) |>.symm
 obtain rfl:fn=Tryz.f5:=(Option.some.inj (Tryz.func5.symm.trans xr)).symm
 refine ⟨by kernel_rfl,fun j t aq=>?_⟩
 rw [Tryz.params5] at aq
 have hm:=Array.mem_of_getElem? aq
 simp only [List.mem_toArray,List.mem_cons,List.not_mem_nil,or_false] at hm
 rcases hm with rfl|rfl
 · exact (show Tryz.prog.wantsStandIn 47=false by kernel_rfl)
 · exact (show Tryz.prog.wantsStandIn 9=false by kernel_rfl)
theorem stackSaysUptoCard_holds:Rows.StackSaysUptoCardSaid:=
 Claim7.holds_tied_plain_at .later [] _ _ _ _ Wp (fun _ h=>by cases h) (by kernel_rfl) (fun _ h=>by cases h) stackSaysUpto_row_tie rfl ⟨rfl,rfl⟩ (by kernel_rfl) rfl plain (by kernel_rfl)
end Go.Proofs.YtnahenbiipdlkaaGreatDoor
