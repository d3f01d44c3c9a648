/- StateSays, where what it reads is of bulk at most 1048576: the law returns true, and the arguments read afterwards as they did; the listed variables are those that the program's text lays. -/
import Derived.Test.YtnahenbiipdlkaaGreatDoorRows
import Derived.Test.YtnahenbiipdlkaaGreatDoorCards
import Derived.Test.YtnahenbiipdlkaaGreatDoorTie
import Derived.Test.YtnahenbiipdlkaaGreatDoorChecked
import Derived.Test.YtnahenbiipdlkaaGreatDoorRde
import Derived.Test.YtnahenbiipdlkaaGreatDoorWzG
import Derived.Test.YtnahenbiipdlkaaGreatDoorWxk
import Derived.ProofKit
import Derived.SizedLaws
import Derived.LaidMore
import Derived.Lay
import Derived.OpenShut
import Derived.JoinedCond
import Derived.Deep.CondSized
import Derived.Deep.DeepHandedRow
import Derived.Lib.LaidTab
import Derived.Stop.LaidErr
import Derived.SevenTiedAt
namespace Go.Proofs.YtnahenbiipdlkaaGreatDoor
open Go Go.ChangeShapes Go.WideShapes Go.ChangeAt Go.RowKit Go.bh Go.ChangeMaps
theorem ZO:ownKnob Tryz.prog.godebug=none:=by kernel_rfl
theorem ZP:laidOutB Tryz.prog=true:=by kernel_rfl
theorem NP:Tryz.prog.globalNamed "internal/strconv.uint64pow10"=some 1:=by kernel_rfl
theorem NQ:Tryz.prog.globalNamed "strconv.ErrSyntax"=some 2:=by kernel_rfl
theorem ZQ:(Tryz.prog.globals[2]?).map (·.type)=some 34:=by kernel_rfl
theorem NR:Tryz.prog.globalNamed "strconv.ErrRange"=some 3:=by kernel_rfl
theorem ZR:(Tryz.prog.globals[3]?).map (·.type)=some 34:=by kernel_rfl
theorem ZS:(Tryz.prog.globals[1]?).map (·.type)=some 281:=by kernel_rfl
theorem ZT:Tryz.prog.cellsOf 281=20:=by kernel_rfl
theorem ZU:Tryz.prog.cellsOf 173=1:=by kernel_rfl
theorem NS:Tryz.prog.cellsOf 308=1:=by kernel_rfl
theorem strCells:Tryz.prog.cellsOf 9=1:=by kernel_rfl
theorem star: "*"++ "errors.errorString"= "*errors.errorString":=by decide
theorem NT (u:TypeId) (h:Tryz.prog.typeName? 3 u=some "*errors.errorString"):u=306:=
 typeName_ptr_named (nm:= "errors.errorString") (by rw [star];kernel_rfl) (by kernel_rfl) (by decide) u (by rw [star];exact h)
theorem aaZ {H:Type}:(Rows.laid_internal_strconv_uint64pow10:DataW H)=Lib.tabData .u64 Lib.pow10Tab:=rfl
theorem tables {W:World} (h:laidMetH Tryz.prog Rows.stateSaysUptoRow.laid W):∃e z aI z2 tp p cR z3 uw nN,W.heap[1]?=some (.cells (Lib.pow10Tab.map (Value.int .u64)).toArray e z)∧W.heap[2]?=some (.cells #[.iface tp p] aI z2)∧W.heap[3]?=some (.cells #[.iface uw nN] cR z3):=by
 have I:laidMet Tryz.prog Rows.stateSaysUptoRow.laid W:=by rwa [MakeChecks.laidMetH_plain _ _ _ (by kernel_rfl)] at h
 have J:Lib.TabIs Tryz.prog W "internal/strconv.uint64pow10" .u64 Lib.pow10Tab:=
  Lib.tabIs_of_head NP ZS Tryz.underlying281 Tryz.underlying173 ZU ZT I.tail.tail
 obtain ⟨a,s,ai,_,_,_⟩:=laid_sentinel I.tail.tail.tail.tail.tail NQ ZQ Tryz.underlying34 NT Tryz.underlying306 Tryz.underlying308 rfl rfl Tryz.underlying9 NS strCells
 obtain ⟨cw,hD,aC,_,_,_⟩:=laid_sentinel I.tail.tail.tail.tail NR ZR Tryz.underlying34 NT Tryz.underlying306 Tryz.underlying308 rfl rfl Tryz.underlying9 NS strCells
 simp only [Lib.TabIs,World.var?,NP,Option.bind_some] at J
 simp only [World.var?,NQ,Option.bind_some] at ai
 simp only [World.var?,NR,Option.bind_some] at aC
 split at J
 · rename_i cs e z ba
   simp only [Option.some.injEq] at J
   rw [J] at ba
   split at ai
   · rename_i Tt aI z2 Ge
     simp only [Option.some.injEq] at ai
     rw [ai] at Ge
     split at aC
     · rename_i aa0 cR z3 BR
       simp only [Option.some.injEq] at aC
       rw [aC] at BR
       exact ⟨e,z,aI,z2,_,_,cR,z3,_,_,ba,Ge,BR⟩
     · cases aC
   · cases ai
 · cases J
theorem ZV:nx (bk:=@Rows.uptoBulk) (bkA:=@Rows.uptoBulkAll) where
 cons d l:=by simp only [Rows.uptoBulkAll]
 slice e s:=by simp only [Rows.uptoBulk];omega
 agg p:=by simp only [Rows.uptoBulk];omega
theorem ZW {H:Type} (d:DataW H):1≤Rows.uptoBulk d:=by
 unfold Rows.uptoBulk;split<;>omega
def NU (e:TypeId) (z:Nat×Nat) (aI:TypeId) (z2:Nat×Nat) (tp:TypeId) (p:Value) (cR:TypeId) (z3:Nat×Nat) (uw:TypeId) (nN:Value):Nat→Option EJ:=fun b=>
 if b=1 then some ⟨e,z,(Lib.pow10Tab.map (Value.int .u64)).toArray⟩ else if b=2 then some ⟨aI,z2,#[.iface tp p]⟩ else if b=3 then some ⟨cR,z3,#[.iface uw nN]⟩ else none
set_option maxRecDepth 100000 in
theorem lifted (os:Os) (started:os.Started) (H:Type) (enc:TypeId×Value→H) (F:Stop.Interp):
 ReturnsInHanded {} Tryz.checked os 6 .any ((Rows.OpenSpec.upto Rows.stateSaysSpec).preRow enc Tryz.prog Tryz.f6 Rows.stateSaysUptoRow.domain false Rows.stateSaysUptoRow.laid) (((Rows.OpenSpec.upto Rows.stateSaysSpec).at F).post enc Tryz.prog Tryz.f6 false true false false):=by
 have ZX:∃places,DataW.whole enc Tryz.prog ((World.laidAll Tryz.prog os Rows.stateSaysUptoRow.laid).forCall (fun _ _=>0) ⟨#[],#[.agg #[.int .i64 0, .slice none 0 0, .slice none 0 0, .slice none 0 0], .string ByteArray.empty],[]⟩).memory Tryz.f6.params.toList Rows.stateSaysSpec.vars false #[Value.agg #[.int .i64 0, .slice none 0 0, .slice none 0 0, .slice none 0 0], .string ByteArray.empty].toList 8=some ([.agg [.lit (.int .i64 0), .nil, .nil, .nil], .lit (.string [])],[],places):=⟨[],by kernel_rfl⟩
 obtain ⟨places,ah⟩:=ZX
 refine returnsInHanded_of_row (C:=Tryz.checked) (s:=Rows.OpenSpec.upto Rows.stateSaysSpec) ZO started (by kernel_rfl) Tryz.func6
  (witness_row_at (enc:=enc) (C:=Tryz.checked) false (World.laidAll Tryz.prog os Rows.stateSaysUptoRow.laid) _ (World.laidAll_os _ _ _) (by kernel_rfl) (by kernel_rfl) (by kernel_rfl)
    (OpenSpec.preRow_of_cond 8 ah (by kernel_rfl) (fun k aj=>by cases aj;kernel_rfl) (by kernel_rfl) (laidMet_laidAll _ (by kernel_rfl) (by kernel_rfl)))) ?_
 intro W base args fC gs before NV qj aa1 aj b2 eh _ _
 have aj:=aj _ rfl
 have mh:∀(j:Nat) t v,Tryz.f6.params[j]?=some t→args[j]?=some v→Value.okWide Tryz.prog W .any base t v:=NV
 have zN:=qj
 obtain ⟨p,q,NW,oT,rfl,Hw,l6⟩:=qj
 have ck:DataW.TrodAll enc Tryz.prog W 0 (fun _=>true) true Tryz.f6.params.toList args.toList fC p:=NW
 rw [Tryz.params6] at ck mh
 obtain ⟨v0,aa2,d0,aa3,pj,We,bp,f0,rfl,aq,pU⟩:=trodAll_cons ck
 obtain ⟨v1,aa4,d1,aa5,s0,cX,ax,f1,rfl,I,hp⟩:=trodAll_cons pU
 obtain ⟨aI,f2,rfl⟩:=trodAll_nil hp
 subst f2
 subst f1
 subst f0
 obtain rfl:args=#[v0,v1]:=by
  cases args
  simp_all
 clear bp ax aI
 obtain ⟨rfl,rfl⟩:=trodVars_none oT
 obtain ⟨h7,rfl,_⟩:=okWide_struct (by rfl) (mh 0 78 v0 rfl rfl)
 obtain ⟨ny,z0,xQ⟩:=mN.ZD (bk:=@Rows.uptoBulk) (f:=gR) (fun _=>ZJ ZV ZW _) (fun _=>⟨_,rfl⟩) aq (HK (P:=Tryz.prog) (t:=78) b2 (j:=0) (by rw [Tryz.params6];rfl) rfl)
 obtain ⟨cH,rfl⟩:=okWide_string (by rfl) (mh 1 9 v1 rfl rfl)
 obtain ⟨NX,b5⟩:=Rd.arg (f:=cf) (fun _=>u6 (by rfl)) (fun _=>rfl) rfl I (HK (P:=Tryz.prog) (t:=9) b2 (j:=1) (by rw [Tryz.params6];rfl) rfl)
 have aO:=of_decide_eq_true aj
 simp only [List.append_nil,Rows.uptoBulkAll] at aO
 have ZY:=ZN ny
 clear NW NV
 simp only [List.append_nil,List.append_assoc] at zN
 obtain ⟨e,z,aI,z2,tp,pp,cR,z3,uw,nN,aJ,AX,ZZ⟩:=tables eh
 refine (S8 (W:=W) (G:=NU e z aI z2 tp pp cR z3 uw nN) (avs:=[gR ny,cf NX]) (cargs:=#[.agg h7, .string cH])
  (Zy ny NX (ZK (by omega)) _ _ ⟨⟨e,z,aI,z2,tp,pp,rfl,rfl⟩,cR,z3,uw,nN,rfl⟩ ⟨rfl,fun b t ae=>by unfold yy;rw [ae];rfl⟩) rfl (fun b t ae=>?_) (fun i ab=>?_) ?_).mono fun e mb ⟨he,ae⟩=>?_
 · unfold NU at ae
   split at ae
   · obtain rfl:=Option.some.inj ae
     subst b
     refine ⟨aJ,fun v bc=>?_⟩
     obtain ⟨n,_,rfl⟩:=List.mem_map.1 bc
     exact .u64 n
   · split at ae
     · obtain rfl:=Option.some.inj ae
       subst b
       refine ⟨AX,fun v bc=>?_⟩
       rw [List.mem_singleton.1 (show v∈[Value.iface tp pp] from bc)]
       exact .iface _ _
     · split at ae
       · obtain rfl:=Option.some.inj ae
         subst b
         refine ⟨ZZ,fun v bc=>?_⟩
         rw [List.mem_singleton.1 (show v∈[Value.iface uw nN] from bc)]
         exact .iface _ _
       · cases ae
 · match i,ab with
   |0,_=>exact xQ
   |1,_=>exact b5
   |_+2,ab=>exact absurd ab (by simp)
 · intro x ah
   simp only [List.mem_cons,List.not_mem_nil,or_false] at ah
   rcases ah with rfl|rfl
   · exact ZY
   · exact .str _
 · subst he
   exact ⟨_,rfl,PS (tb:=4) rfl rfl Tryz.underlying4 ZP (by kernel_rfl) zN rfl ae⟩
theorem Z0:Rows.StateSaysUptoSaid:=
 OpenClaim.holds_of_cond 6 Tryz.f6 rfl rfl rfl rfl rfl rfl rfl ⟨rfl,rfl,rfl,rfl,rfl⟩ rfl rfl rfl rfl rfl (by kernel_rfl) Tryz.func6 (by kernel_rfl)
  (of_decide_eq_true (by kernel_rfl)) (by unfold Func.isWrapper;first|(rw [if_pos (by decide+kernel)];kernel_rfl)|(rw [if_neg (by decide+kernel)];exact ⟨rfl,rfl⟩))
  (fun os started H enc _ F=>by rw [OpenClaim.pre_eq_preRow];exact lifted os started H enc F)
theorem plain (f:FuncId) (fn:Func) (aW:Tryz.pinned.checked.prog.funcNamed "wavewright/wavewrightlaw.StateSays"=some f) (xt:Tryz.pinned.checked.prog.funcs[f]?=some fn):
 true=Tryz.pinned.checked.prog.looks []∧∀(j:Nat) t,fn.params[j]?=some t→Tryz.pinned.checked.prog.wantsStandIn t=false:=by
 obtain rfl:f=6:=Option.some.inj ((show Tryz.prog.funcNamed "wavewright/wavewrightlaw.StateSays"=some 6 by kernel_rfl).symm.trans aW) |>.symm
 obtain rfl:fn=Tryz.f6:=(Option.some.inj (Tryz.func6.symm.trans xt)).symm
 refine ⟨by kernel_rfl,fun j t ao=>?_⟩
 rw [Tryz.params6] at ao
 have hm:=Array.mem_of_getElem? ao
 simp only [List.mem_toArray,List.mem_cons,List.not_mem_nil,or_false] at hm
 rcases hm with rfl|rfl
 · exact (show Tryz.prog.wantsStandIn 78=false by kernel_rfl)
 · exact (show Tryz.prog.wantsStandIn 9=false by kernel_rfl)
theorem stateSaysUptoCard_holds:Rows.StateSaysUptoCardSaid:=
 Claim7.holds_tied_plain_at .later [] _ _ _ _ Z0 (fun _ h=>by cases h) (by kernel_rfl) (fun _ h=>by cases h) stateSaysUpto_row_tie rfl ⟨rfl,rfl⟩ (by kernel_rfl) rfl plain (by kernel_rfl)
end Go.Proofs.YtnahenbiipdlkaaGreatDoor
