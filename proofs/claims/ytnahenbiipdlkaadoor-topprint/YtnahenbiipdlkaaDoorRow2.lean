/- TopPrint: for every argument the law returns true, and the arguments read afterwards as they did; the listed variables are those that the program's text lays. -/
import Derived.Test.YtnahenbiipdlkaaDoorRows
import Derived.Test.YtnahenbiipdlkaaDoorCards
import Derived.Test.YtnahenbiipdlkaaDoorTie
import Derived.Test.YtnahenbiipdlkaaDoorChecked
import Derived.Test.YtnahenbiipdlkaaDoorRd9
import Derived.Test.YtnahenbiipdlkaaDoorWwS
import Derived.Test.YtnahenbiipdlkaaDoorSv4
import Derived.Test.YtnahenbiipdlkaaDoorWxz
import Derived.ProofKit
import Derived.SizedLaws
import Derived.LaidMore
import Derived.Lay
import Derived.OpenShut
import Derived.JoinedCond
import Derived.Stop.Joined
import Derived.Deep.CondSized
import Derived.Deep.DeepHandedRow
import Derived.Lib.LaidTab
import Derived.Stop.LaidErr
import Derived.SevenTiedAt
namespace Go.Proofs.YtnahenbiipdlkaaDoor
open Go Go.ChangeShapes Go.WideShapes Go.ChangeAt Go.RowKit Go.bb Go.ChangeMaps
theorem R1:ownKnob Tryd.prog.godebug=none:=by kernel_rfl
theorem R2:laidOutB Tryd.prog=true:=by kernel_rfl
theorem HT:Tryd.prog.globalNamed "internal/strconv.uint64pow10"=some 0:=by kernel_rfl
theorem HU:Tryd.prog.globalNamed "strconv.ErrSyntax"=some 2:=by kernel_rfl
theorem R3:(Tryd.prog.globals[2]?).map (·.type)=some 41:=by kernel_rfl
theorem R4:(Tryd.prog.globals[0]?).map (·.type)=some 161:=by kernel_rfl
theorem R5:Tryd.prog.cellsOf 161=20:=by kernel_rfl
theorem R6:Tryd.prog.cellsOf 153=1:=by kernel_rfl
theorem R7:Tryd.prog.cellsOf 183=1:=by kernel_rfl
theorem strCells:Tryd.prog.cellsOf 9=1:=by kernel_rfl
theorem star: "*"++ "errors.errorString"= "*errors.errorString":=by decide
theorem R8 (u:TypeId) (h:Tryd.prog.typeName? 3 u=some "*errors.errorString"):u=181:=
 typeName_ptr_named (nm:= "errors.errorString") (by rw [star];kernel_rfl) (by kernel_rfl) (by decide) u (by rw [star];exact h)
theorem Tu {H:Type}:(Rows.laid_internal_strconv_uint64pow10:DataW H)=Lib.tabData .u64 Lib.pow10Tab:=rfl
theorem tables {W:World} (h:laidMetH Tryd.prog Rows.topPrintRow.laid W):∃e z az z2 tp p,W.heap[0]?=some (.cells (Lib.pow10Tab.map (Value.int .u64)).toArray e z)∧W.heap[2]?=some (.cells #[.iface tp p] az z2):=by
 have I:laidMet Tryd.prog Rows.topPrintRow.laid W:=by rwa [MakeChecks.laidMetH_plain _ _ _ (by kernel_rfl)] at h
 have J:Lib.TabIs Tryd.prog W "internal/strconv.uint64pow10" .u64 Lib.pow10Tab:=
  Lib.tabIs_of_head HT R4 Tryd.underlying161 Tryd.underlying153 R6 R5 I.tail.tail
 obtain ⟨a,s,ak,_,_,_⟩:=laid_sentinel I.tail.tail.tail.tail HU R3 Tryd.underlying41 R8 Tryd.underlying181 Tryd.underlying183 rfl rfl Tryd.underlying9 R7 strCells
 simp only [Lib.TabIs,World.var?,HT,Option.bind_some] at J
 simp only [World.var?,HU,Option.bind_some] at ak
 split at J
 · rename_i cs e z aL
   simp only [Option.some.injEq] at J
   rw [J] at aL
   split at ak
   · rename_i Tv az z2 BG
     simp only [Option.some.injEq] at ak
     rw [ak] at BG
     exact ⟨e,z,az,z2,_,_,aL,BG⟩
   · cases ak
 · cases J
def HV (e:TypeId) (z:Nat×Nat) (az:TypeId) (z2:Nat×Nat) (tp:TypeId) (p:Value):Nat→Option Av:=fun b=>
 if b=0 then some ⟨e,z,(Lib.pow10Tab.map (Value.int .u64)).toArray⟩ else if b=2 then some ⟨az,z2,#[.iface tp p]⟩ else none
set_option maxRecDepth 100000 in
theorem lifted (os:Os) (started:os.Started) (H:Type) (enc:TypeId×Value→H):
 ReturnsInHanded {} Tryd.checked os 6 .any (fun w args=>(Rows.topPrintSpec.pre enc Tryd.prog Tryd.f6 [] false w args∧laidMetH Tryd.prog Rows.topPrintRow.laid w)∧sizedMet enc Tryd.prog Tryd.f6 (OpenSpec.ofChange Rows.topPrintSpec) false w args)
  (Rows.topPrintSpec.post enc Tryd.prog Tryd.f6 false true false false):=by
 refine returnsInHanded_of_change_and (C:=Tryd.checked) (X:=fun w _=>laidMetH Tryd.prog Rows.topPrintRow.laid w) (fun _ _ _ aL h=>h.of_heap aL) R1 started (by kernel_rfl) Tryd.func6
  (ChangeSpec.witness_shaped (enc:=enc) (C:=Tryd.checked) (os:=os) (X:=fun w _=>laidMetH Tryd.prog Rows.topPrintRow.laid w) false (World.laidAll Tryd.prog os Rows.topPrintRow.laid) #[.slice none 0 0, .string ByteArray.empty] 8 (World.laidAll_os _ _ _)
    (World.shaped_of_ZipB (by kernel_rfl) (by kernel_rfl)) (by kernel_rfl) (by kernel_rfl) (by kernel_rfl)
    (by rw [MakeChecks.laidMetH_plain _ _ _ (by kernel_rfl)];exact laidMet_laidAll _ (by kernel_rfl) (by kernel_rfl))) ?_
 intro W base args fO gs before HW nU Tw b5 eT gz
 have n0:∀(j:Nat) t v,Tryd.f6.params[j]?=some t→args[j]?=some v→Value.okWide Tryd.prog W .any base t v:=HW
 have vP:=nU
 obtain ⟨p,q,HX,mv,rfl,Da,kg⟩:=nU
 have cW:DataW.TrodAll enc Tryd.prog W 0 (fun _=>true) true Tryd.f6.params.toList args.toList fO p:=HX
 rw [Tryd.params6] at cW n0
 obtain ⟨v0,Tx,d0,Ty,mP,Pl,cD,f0,rfl,aA,nu⟩:=trodAll_cons cW
 obtain ⟨v1,Tz,d1,TA,qh,bZ,ay,f1,rfl,I,h4⟩:=trodAll_cons nu
 obtain ⟨az,f2,rfl⟩:=trodAll_nil h4
 subst f2
 subst f1
 subst f0
 obtain rfl:args=#[v0,v1]:=by
  cases args
  simp_all
 clear cD ay az
 obtain ⟨rfl,rfl⟩:=trodVars_none mv
 obtain ⟨gv,mf,c0,rfl⟩:=okWide_slice (by rfl) (n0 0 60 v0 rfl rfl)
 obtain ⟨lj,p7⟩:=Rd.arg (f:=(ld ew)) (fun _=>oP (by rfl) (by rfl) (by decide) (by decide) (fun _=>rfl) (fun _ _=>RS _)) (fun _=>rfl) rfl aA (Dx (P:=Tryd.prog) (t:=60) b5 (j:=0) (by rw [Tryd.params6];rfl) rfl)
 obtain ⟨cf,rfl⟩:=okWide_string (by rfl) (n0 1 9 v1 rfl rfl)
 obtain ⟨HY,bA⟩:=Rd.arg (f:=cp) (fun _=>my (by rfl)) (fun _=>rfl) rfl I (Dx (P:=Tryd.prog) (t:=9) b5 (j:=1) (by rw [Tryd.params6];rfl) rfl)
 clear HX HW
 simp only [List.append_nil,List.append_assoc] at vP
 obtain ⟨e,z,az,z2,tp,pp,aC,wP⟩:=tables eT
 refine (MV (W:=W) (G:=HV e z az z2 tp pp) (avs:=[ld ew lj,cp HY]) (cargs:=#[.slice gv mf c0, .string cf])
  (RL lj HY _ _ ⟨e,z,az,z2,tp,pp,rfl,rfl⟩ ⟨rfl,fun b t ag=>by unfold uN;rw [ag];rfl⟩) rfl (fun b t ag=>?_) (fun i ab=>?_) ?_).mono fun e kl ⟨he,ag⟩=>?_
 · unfold HV at ag
   split at ag
   · obtain rfl:=Option.some.inj ag
     subst b
     refine ⟨aC,fun v ba=>?_⟩
     obtain ⟨n,_,rfl⟩:=List.mem_map.1 ba
     exact .u64 n
   · split at ag
     · obtain rfl:=Option.some.inj ag
       subst b
       refine ⟨wP,fun v ba=>?_⟩
       rw [List.mem_singleton.1 (show v∈[Value.iface tp pp] from ba)]
       exact .iface _ _
     · cases ag
 · match i,ab with
   |0,_=>exact p7
   |1,_=>exact bA
   |_+2,ab=>exact absurd ab (by simp)
 · intro x ao
   simp only [List.mem_cons,List.not_mem_nil,or_false] at ao
   rcases ao with rfl|rfl
   · exact vn (f:=ew) (fun _=>List.cons_ne_nil _ _) R0 lj
   · exact .str _
 · subst he
   exact ⟨_,rfl,J6 (tb:=4) rfl rfl Tryd.underlying4 R2 (by kernel_rfl) vP rfl ag⟩
theorem said:Rows.TopPrintSaid:=
 OpenClaim.holds_of_wide 6 Tryd.f6 rfl rfl rfl rfl rfl rfl rfl ⟨rfl,rfl,rfl,rfl,rfl⟩ rfl rfl rfl rfl rfl (by kernel_rfl) Tryd.func6 (by kernel_rfl)
  (of_decide_eq_true (by kernel_rfl)) (by unfold Func.isWrapper;first|(rw [if_pos (by decide+kernel)];kernel_rfl)|(rw [if_neg (by decide+kernel)];exact ⟨rfl,rfl⟩))
  (fun os started H enc _=>lifted os started H enc)
theorem plain (f:FuncId) (fn:Func) (aM:Tryd.pinned.checked.prog.funcNamed "wavewright/wavewrighttop.TopPrint"=some f) (tG:Tryd.pinned.checked.prog.funcs[f]?=some fn):
 true=Tryd.pinned.checked.prog.looks []∧∀(j:Nat) t,fn.params[j]?=some t→Tryd.pinned.checked.prog.wantsStandIn t=false:=by
 obtain rfl:f=6:=Option.some.inj ((show Tryd.prog.funcNamed "wavewright/wavewrighttop.TopPrint"=some 6 by kernel_rfl).symm.trans aM) |>.symm
 obtain rfl:fn=Tryd.f6:=(Option.some.inj (Tryd.func6.symm.trans tG)).symm
 refine ⟨by kernel_rfl,fun j t an=>?_⟩
 rw [Tryd.params6] at an
 have hm:=Array.mem_of_getElem? an
 simp only [List.mem_toArray,List.mem_cons,List.not_mem_nil,or_false] at hm
 rcases hm with rfl|rfl
 · exact (show Tryd.prog.wantsStandIn 60=false by kernel_rfl)
 · exact (show Tryd.prog.wantsStandIn 9=false by kernel_rfl)
theorem topPrintCard_holds:Rows.TopPrintCardSaid:=
 Claim7.holds_tied_plain_at .later [] _ _ _ _ said (fun _ h=>by cases h) (by kernel_rfl) (fun _ h=>by cases h) topPrint_row_tie rfl ⟨rfl,rfl⟩ (by kernel_rfl) rfl plain (by kernel_rfl)
end Go.Proofs.YtnahenbiipdlkaaDoor
