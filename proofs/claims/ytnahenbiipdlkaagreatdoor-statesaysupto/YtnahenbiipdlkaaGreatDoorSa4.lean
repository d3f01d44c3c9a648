import Derived.Test.YtnahenbiipdlkaaGreatDoorProg
import Derived.Test.YtnahenbiipdlkaaGreatDoorSv4
import Derived.Test.YtnahenbiipdlkaaGreatDoorWyD
import Derived.Test.YtnahenbiipdlkaaGreatDoorWl2
import Derived.Lib.AppendIntMem
import Derived.Test.YtnahenbiipdlkaaGreatDoorPx7
import Derived.Test.YtnahenbiipdlkaaGreatDoorWzG
section
namespace Go.Proofs
open Go Go.bh
set_option maxRecDepth 100000
set_option maxHeartbeats 4000000 in
theorem LI (d aT aG:Nat) (s:cz) (c:e3) (N:Nat) (cd:[d,aG].Nodup) (gD:hn N s) (ly:N≤100000) (ag:c.data.length≤4000) (m:ad) (K:R→ad→Prop) (U:K (.err 115 (gg s c).2) (bX m [(d,bN aT aG (gg s c).1),(aG,aS (gg s c).1.now)])):bn Tryz.prog 162 [cS d,di c] (bX m [(d,bN aT aG s),(aG,aS s.now)]) K:=by
 have aj:=pd s
 have o9:=aj.2.2.1
 have WV:=gD.wo
 have WW:(a7 s).1.wait.length≤100000:=by rw [o9];omega
 refine oS Tryz.func162 rfl (by decide) (dF rfl) ?_
 show b7 _ _ _ _ [(0,cS d),(1,di c)] (bX m [(d,bN aT aG s),(aG,aS s.now)])
 refine dE [] [0,3] (by decide) ?_
 intro aU aV
 refine C3 rfl (m:=m) (L:=[(d,bN aT aG s),(aG,aS s.now)]) (v:=di c) (by rfl) rfl ?_
 intro bH iO
 have lZ:m bH=none:=u4 iO
 have dx:([bH,d,aG]:List Nat).Nodup:=u3 iO cd
 refine ⟨bg,?_⟩
 show aU [(0,cS d),(3,cS bH)] (bX m [(bH, .cells [.str c.name, .str c.data, .str c.to,bl c.kind]),(d,bN aT aG s),(aG,aS s.now)])
 refine aV _ _ ?_;clear aV aU
 refine dE [] [0,3,5] (by decide) ?_
 intro aU aV
 refine ⟨bg,?_⟩
 refine u5 (r7 dx (nv [1] _)) ?_
 refine FC d aT aG s gD.uh (by have:=gD.nz;omega) gD.ui gD.uj _ _ ?_
 refine u5 (r7 (m:=m) (L:=[(bH, .cells [.str c.name, .str c.data, .str c.to,bl c.kind]),(d,bN aT aG ((a7 s).1)),(aG,aS s.now)]) dx (nv [1] _)).symm ?_
 refine ⟨bg,?_⟩
 show aU [(0,cS d),(3,cS bH),(5, .err 115 ((a7 s).2))] (bX m [(bH, .cells [.str c.name, .str c.data, .str c.to,bl c.kind]),(d,bN aT aG ((a7 s).1)),(aG,aS s.now)])
 refine aV _ _ ?_;clear aV aU
 refine ln ?_;intro rp hl
 refine dE [] [0,3,5,9] (by decide) ?_
 intro aU aV
 refine ⟨bg,⟨rfl,rfl⟩,?_⟩
 show aU [(0,cS d),(3,cS bH),(5, .err 115 ((a7 s).2)),(9, .bool (!(((a7 s).2)==0)))] _
 refine aV _ _ ?_;clear aV aU
 refine jn rfl rfl (fun I=>?_) (fun I=>?_)
 ·
  replace I:(a7 s).2≠0:=(ne_of_beq_false (dD I))
  refine dE [] [4] (by decide) ?_
  intro aU aV
  refine ⟨bg,bg,?_⟩
  show aU [(4, .err 115 ((a7 s).2))] (bX m [(bH, .cells [.str c.name, .str c.data, .str c.to,bl c.kind]),(d,bN aT aG ((a7 s).1)),(aG,aS s.now)])
  refine aV _ _ ?_;clear aV aU
  refine hU ?_
  refine ⟨bg,(bX m [(d,bN aT aG ((a7 s).1)),(aG,aS s.now)]),(ob (m:=m) [(bH, .cells [.str c.name, .str c.data, .str c.to,bl c.kind])] [(d,bN aT aG ((a7 s).1)),(aG,aS s.now)] dx (by simp only [List.map_cons,List.map_nil,List.forall_mem_cons];exact ⟨lZ,kV⟩)),?_⟩
  show K (.err 115 ((a7 s).2)) (ad.aX m [(d,bN aT aG ((a7 s).1)),(aG,aS s.now)])
  have bp:gg s c=(((⟨((a7 s).1).kept,s.now,((a7 s).1).wait,((a7 s).1).cu,(((a7 s).1).down),((a7 s).1).steps⟩:cz),(a7 s).2):cz×Int):=by
   first|(rw [gg,if_pos I,←aj.2.1];done)|(rw [gg,if_neg (by omega)];simp only [aj.1,o9];done)
  rw [bp] at U
  exact U
 replace I:(a7 s).2=0:=(eq_of_beq (dC I))
 refine jF ?_
 refine hl _ _ ?_;clear hl
 refine Q9 Tryz.mixed [(5,16)] [(5,16, .tuple [])] [(bX m [(bH, .cells [.str c.name, .str c.data, .str c.to,bl c.kind]),(d,bN aT aG ((a7 s).1)),(aG,aS s.now)]),(bX m [(bH, .cells [.str c.name, .str c.data, .str c.to,bl c.kind]),(d,bN aT aG ((a7 s).1)),(aG,aS (eN s.now c))])] [] [0,3] [(15, .agg [.str c.name, .str c.data, .str c.to,bl c.kind]),(14, .map aG),(13, .ptr ⟨d,1,none⟩),(12,cS d),(11,cS d),(16, .tuple []),(0,cS d),(3,cS bH),(5, .err 115 ((a7 s).2)),(9, .bool (!(((a7 s).2)==0)))] (bX m [(bH, .cells [.str c.name, .str c.data, .str c.to,bl c.kind]),(d,bN aT aG ((a7 s).1)),(aG,aS (eN s.now c))]) (by decide) (by decide) (by decide) rfl rfl rfl rfl ?_ ?_ ?_
 ·
  refine ⟨?_,bg⟩
  ·
   exact H8 (r7 (m:=m) (L:=[(bH, .cells [.str c.name, .str c.data, .str c.to,bl c.kind]),(d,bN aT aG ((a7 s).1)),(aG,aS s.now)]) dx (nv [2] _)) (r7 (m:=m) (L:=[(bH, .cells [.str c.name, .str c.data, .str c.to,bl c.kind]),(d,bN aT aG ((a7 s).1)),(aG,aS (eN s.now c))]) dx (nv [2] _)) (fun FE FF=>LC aG s.now c (by have:=gD.nl;omega) (fun p aB=>by have:=gD.aG p aB;omega) (by omega) _ FE FF)
 ·
  refine ⟨?_,?_,bg⟩
  ·
   show hN _ _ _ _ _ [(16, .tuple []),(0,cS d),(3,cS bH),(5, .err 115 ((a7 s).2)),(9, .bool (!(((a7 s).2)==0)))] _
   refine ⟨bg,bg,⟨rfl,by decide⟩,?_⟩
   refine rZ rfl (v:= .map aG) rfl (fg 1 dx rfl) (hb rfl rfl (dF rfl)) rfl ?_
   refine rZ rfl (v:= .agg [.str c.name, .str c.data, .str c.to,bl c.kind]) rfl (fg 0 dx rfl) (rY rfl rfl (dF rfl)) rfl ?_
   exact rfl
  ·
   show hN _ _ _ _ _ [(16, .tuple []),(0,cS d),(3,cS bH),(5, .err 115 ((a7 s).2)),(9, .bool (!(((a7 s).2)==0)))] _
   refine ⟨bg,bg,⟨rfl,by decide⟩,?_⟩
   refine rZ rfl (v:= .map aG) rfl (fg 1 dx rfl) (hb rfl rfl (dF rfl)) rfl ?_
   refine rZ rfl (v:= .agg [.str c.name, .str c.data, .str c.to,bl c.kind]) rfl (fg 0 dx rfl) (rY rfl rfl (dF rfl)) rfl ?_
   exact rfl
 intro aU aV
 show aU [(0,cS d),(3,cS bH)] (bX m [(bH, .cells [.str c.name, .str c.data, .str c.to,bl c.kind]),(d,bN aT aG ((a7 s).1)),(aG,aS (eN s.now c))])
 refine aV _ _ ?_;clear aV aU
 refine Qq Tryz.mixed [] (by decide) ?_
 intro aU aV
 intro A ck
 suffices key:∀(_:True),aU [] (bX m [(bH, .cells [.str c.name, .str c.data, .str c.to,bl c.kind]),(d, .cells [.map aT, .map aG,iQ (((((a7 s).1).wait)++([c]:List e3)).map di),bl (((a7 s).1).cu), .bool (((a7 s).1).down),bl (((a7 s).1).steps)]),(aG,aS (eN s.now c))]) by
  let sK:Fr→ad→Prop:=(fun fr m=>aU (fr.keep []) m)
  let WX:ad:=(bX m [(bH, .cells [.str c.name, .str c.data, .str c.to,bl c.kind]),(d, .cells [.map aT, .map aG,iQ (((((a7 s).1).wait)++([c]:List e3)).map di),bl (((a7 s).1).cu), .bool (((a7 s).1).down),bl (((a7 s).1).steps)]),(aG,aS (eN s.now c))])
  let WY:Nat×R:=(24,iQ (((((a7 s).1).wait)++([c]:List e3)).map di))
  let WZ:Nat×R:=(26, .ptr ⟨d,2,none⟩)
  let BB:ad:=(bX m [(bH, .cells [.str c.name, .str c.data, .str c.to,bl c.kind]),(d, .cells [.map aT, .map aG,oX ((((a7 s).1).wait).map di),bl (((a7 s).1).cu), .bool (((a7 s).1).down),bl (((a7 s).1).steps)]),(aG,aS (eN s.now c))])
  let wq:Nat×R:=(17,cS d)
  let FG:Nat×R:=(21,iQ ((((a7 s).1).wait).map di))
  let LJ:Nat×R:=(23, .slice true [.agg [.str c.name, .str c.data, .str c.to,bl c.kind]])
  let LK:Nat×R:=(22, .agg [.str c.name, .str c.data, .str c.to,bl c.kind])
  let FH:Nat×R:=(20, .ptr ⟨d,2,none⟩)
  let FI:ad:=(bX m [(bH, .cells [.str c.name, .str c.data, .str c.to,bl c.kind]),(d,bN aT aG ((a7 s).1)),(aG,aS (eN s.now c))])
  let LL:Nat×R:=(3,cS bH)
  have me:∀(_:True),A 0 #[true,true,true,true,true,true,true,true,true,true,true] sK [] WX:=by
   intro _
   subst ck
   exact b8.done (by decide+kernel) (key bg)
  have s1:∀(_:True),A 1 #[true,true,true,true,true,true,true,true,true,true,false] sK [WY,WZ] BB:=by
   intro _
   subst ck
   refine b8.step [21] [10] (by decide+kernel) (by simp) (by decide) ⟨?_,bg⟩
   ·
    show cF _ _ _ [_] _ _ _
    refine r6 rfl 1 (v:=iQ (((((a7 s).1).wait)++([c]:List e3)).map di)) (l':=[.map aT, .map aG,iQ (((((a7 s).1).wait)++([c]:List e3)).map di),bl (((a7 s).1).cu), .bool (((a7 s).1).down),bl (((a7 s).1).steps)]) rfl rfl dx rfl rfl rfl rfl rfl (dF rfl) rfl ?_
    refine b8.keep [] (by decide) ?_
    exact me trivial
  clear me
  have s2:∀(_:True),A 4 #[true,true,true,true,true,true,true,false,false,false,false] sK [wq,FG,LJ] BB:=by
   intro _
   subst ck
   refine b8.step [21] [7] (by decide+kernel) (by simp) (by decide) ⟨?_,bg⟩
   ·
    show cF _ _ _ [_] _ _ _
    refine Qi rfl di (((a7 s).1).wait) ([c]:List e3) rfl rfl rfl rfl rfl rfl (dF rfl) rfl (by (simp only [show Tryz.prog.bytesOf 202=56 from rfl,List.length_append,List.length_cons,List.length_nil];omega)) (by (first|omega|(simp only [List.length_append,List.length_cons,List.length_nil];omega))) (fun _=>⟨rfl,rfl⟩) ?_
    refine b8.Ij (i:=8) rfl rfl rfl (by decide) rfl (by decide+kernel) rfl ?_
    refine b8.Ik (i:=9) rfl rfl rfl (by decide) rfl (by decide+kernel) rfl rfl ⟨rfl,by decide⟩ ?_
    refine b8.keep [24,26] (by decide) ?_
    exact s1 trivial
  clear s1
  have fk:∀(_:True),A 5 #[true,true,true,true,true,true,false,false,false,false,false] sK [wq,FG,LK] BB:=by
   intro _
   subst ck
   refine b8.step [21] [6] (by decide+kernel) (by simp) (by decide) ⟨?_,bg⟩
   ·
    show cF _ _ _ [_] _ _ _
    refine ⟨⟨rfl,dF rfl,rfl,dF rfl,rfl,by simp only [List.forall_mem_cons];exact ⟨⟨rfl,rfl⟩,kV⟩⟩,?_⟩
    refine b8.keep [17,21,23] (by decide) ?_
    exact s2 trivial
  have rb:∀(_:True),A 5 #[true,true,true,true,false,true,true,false,false,false,false] sK [wq,FH,LJ] FI:=by
   intro _
   subst ck
   refine b8.step [21] [4] (by decide+kernel) (by simp) (by decide) ⟨?_,bg⟩
   ·
    show cF _ _ _ [_] _ _ _
    refine C4 rfl (i:=1) rfl dx rfl rfl rfl rfl (dF rfl) ?_
    refine b8.keep [17,21,23] (by decide) ?_
    exact s2 trivial
  clear s2
  have BC:∀(_:True),A 6 #[true,true,true,true,true,false,false,false,false,false,false] sK [LL,wq,FG] BB:=by
   intro _
   subst ck
   refine b8.step [21] [5] (by decide+kernel) (by simp) (by decide) ⟨?_,bg⟩
   ·
    show cF _ _ _ [_] _ _ _
    refine ht rfl (v:= .agg [.str c.name, .str c.data, .str c.to,bl c.kind]) rfl (fg 0 dx rfl) rfl (rY rfl rfl (dF rfl)) rfl ?_
    refine b8.keep [17,21,22] (by decide) ?_
    exact fk trivial
  have LM:∀(_:True),A 6 #[true,true,true,true,false,true,false,false,false,false,false] sK [wq,FH,LK] FI:=by
   intro _
   subst ck
   refine b8.step [21] [4,6] (by decide+kernel) (by simp) (by decide) ⟨?_,?_,bg⟩
   ·
    show cF _ _ _ [_] _ _ _
    refine C4 rfl (i:=1) rfl dx rfl rfl rfl rfl (dF rfl) ?_
    refine b8.keep [17,21,22] (by decide) ?_
    exact fk trivial
   ·
    show cF _ _ _ [_] _ _ _
    refine ⟨⟨rfl,dF rfl,rfl,dF rfl,rfl,by simp only [List.forall_mem_cons];exact ⟨⟨rfl,rfl⟩,kV⟩⟩,?_⟩
    refine b8.keep [17,20,23] (by decide) ?_
    exact rb trivial
  clear fk rb
  have W0:∀(_:True),A 7 #[true,true,true,true,false,false,false,false,false,false,false] sK [LL,wq,FH] FI:=by
   intro _
   subst ck
   refine b8.step [21] [4,5] (by decide+kernel) (by simp) (by decide) ⟨?_,?_,bg⟩
   ·
    show cF _ _ _ [_] _ _ _
    refine C4 rfl (i:=1) rfl dx rfl rfl rfl rfl (dF rfl) ?_
    refine b8.keep [3,17,21] (by decide) ?_
    exact BC trivial
   ·
    show cF _ _ _ [_] _ _ _
    refine ht rfl (v:= .agg [.str c.name, .str c.data, .str c.to,bl c.kind]) rfl (fg 0 dx rfl) rfl (rY rfl rfl (dF rfl)) rfl ?_
    refine b8.keep [17,20,22] (by decide) ?_
    exact LM trivial
  clear BC LM
  subst ck
  refine b8.Ii (i:=0) rfl rfl rfl (by decide) rfl (by decide+kernel) rfl ?_
  refine b8.Ii (i:=1) rfl rfl rfl (by decide) rfl (by decide+kernel) rfl ?_
  refine b8.Ij (i:=2) rfl rfl rfl (by decide) rfl (by decide+kernel) rfl ?_
  refine b8.Ik (i:=3) rfl rfl rfl (by decide) rfl (by decide+kernel) rfl rfl ⟨rfl,by decide⟩ ?_
  refine b8.keep [3,17,20] (by decide) ?_
  exact W0 trivial
 intro _
 refine aV _ _ ?_;clear aV aU
 refine dE [] [4] (by decide) ?_
 intro aU aV
 refine ⟨bg,?_⟩
 show aU [(4, .nilIface)] (bX m [(bH, .cells [.str c.name, .str c.data, .str c.to,bl c.kind]),(d, .cells [.map aT, .map aG,iQ (((((a7 s).1).wait)++([c]:List e3)).map di),bl (((a7 s).1).cu), .bool (((a7 s).1).down),bl (((a7 s).1).steps)]),(aG,aS (eN s.now c))])
 refine aV _ _ ?_;clear aV aU
 refine mM 115 [4] ?_
 show b7 _ _ _ _ [(4, .err 115 0)] _
 refine hU ?_
 refine ⟨bg,(bX m [(d, .cells [.map aT, .map aG,iQ (((((a7 s).1).wait)++([c]:List e3)).map di),bl (((a7 s).1).cu), .bool (((a7 s).1).down),bl (((a7 s).1).steps)]),(aG,aS (eN s.now c))]),(ob (m:=m) [(bH, .cells [.str c.name, .str c.data, .str c.to,bl c.kind])] [(d, .cells [.map aT, .map aG,iQ (((((a7 s).1).wait)++([c]:List e3)).map di),bl (((a7 s).1).cu), .bool (((a7 s).1).down),bl (((a7 s).1).steps)]),(aG,aS (eN s.now c))] dx (by simp only [List.map_cons,List.map_nil,List.forall_mem_cons];exact ⟨lZ,kV⟩)),?_⟩
 show K (.err 115 0) (ad.aX m [(d, .cells [.map aT, .map aG,iQ (((((a7 s).1).wait)++([c]:List e3)).map di),bl (((a7 s).1).cu), .bool (((a7 s).1).down),bl (((a7 s).1).steps)]),(aG,aS (eN s.now c))])
 have bp:gg s c=(((⟨s.kept,eN s.now c,(((a7 s).1).wait)++([c]:List e3),((a7 s).1).cu,(((a7 s).1).down),((a7 s).1).steps⟩:cz),0):cz×Int):=by
  first|(rw [gg,if_pos I,←aj.2.1];done)|(rw [gg,if_neg (by omega)];simp only [aj.1,o9];done)
 rw [bp] at U
 exact U
def oF (c:UInt8):Bool:=(decide (97≤(c.toNat:Int))&&decide ((c.toNat:Int)≤122))||(decide (48≤(c.toNat:Int))&&decide ((c.toNat:Int)≤57))||((c.toNat:Int)==46)
def ix (s:ak):Bool:=s.all oF&&!(s==[])&&decide ((s.length:Int)≤24)
def gN (s:cz) (name:ak) (size:Int):Int:=
 if ix name=false then 3 else if 4000<size then 2 else if (cn s.now name).isSome=false∧40≤(s.now.length:Int) then 2 else 0
def eG (s:cz) (name data:ak):cz×Int:=if gN s name data.length≠0 then (s,gN s name data.length) else gg s ⟨name,data,[],1⟩
def gE (s:cz) (name:ak):ak×Int:=if s.down=true then ([],10) else if (cn s.now name).isSome=false then ([],7) else ((cn s.now name).getD [],0)
theorem LN {s:cz} {n:ak} {z:Int} (h:gN s n z=0):z≤4000:=by
 unfold gN at h
 split at h
 · cases h
 · split at h
   · cases h
   · omega
theorem W1 {s:ak} {i:Int} {p:UInt8→Bool} (aq:0≤i) (ab:i<s.length):(s.take (i+1).toNat).all p=((s.take i.toNat).all p&&p (aa s i)):=by
 rw [lP aq ab,List.all_append];simp
set_option maxHeartbeats 2000000 in
theorem FJ (s:ak) (al:s.length≤140737488355328) (m:ad) (K:R→ad→Prop) (U:K (.bool (ix s)) m):bn Tryz.prog 164 [.str s] m K:=by
 refine oS Tryz.func164 rfl (by decide) (dF rfl) ?_
 show b7 _ _ _ _ [(0, .str s)] m
 refine dE [] [0] (by decide) ?_
 intro aU aV
 refine ⟨bg,?_⟩
 show aU [(0, .str s)] m
 refine aV _ _ ?_;clear aV aU
 refine ln ?_;intro rp hl
 refine dE [] [0,6,7] (by decide) ?_
 intro aU aV
 refine ⟨bg,bg,bg,?_⟩
 show aU [(0, .str s),(6,bl (s.length:Int)),(7,bl 0)] m
 refine aV _ _ ?_;clear aV aU
 refine uH ?_
 refine HB [0,6,7] (by decide) ?_
 refine CT (σ:=Int) (fun i=>[(0, .str s),(6,bl (s.length:Int)),(7,bl i)]) (fun _=>m) (fun i=>0≤i∧i≤s.length∧(s.take i.toNat).all oF=true) (fun i=>s.length- i.toNat) (0) rfl rfl ?_ ?_
 ·
  show 0≤((0:Int))∧((0:Int))≤s.length∧(s.take ((0:Int)).toNat).all oF=true
  exact ⟨by omega,by omega,by simp⟩
 rintro i aM
 replace aM:0≤i∧i≤s.length∧(s.take i.toNat).all oF=true:=aM
 show b7 _ _ _ _ [(0, .str s),(6,bl (s.length:Int)),(7,bl i)] m
 refine dE [] [0,6,7,8] (by decide) ?_
 intro aU aV
 refine ⟨bg,?_⟩
 show aU [(0, .str s),(6,bl (s.length:Int)),(7,bl i),(8, .bool (decide (i<(s.length:Int))))] m
 refine aV _ _ ?_;clear aV aU
 refine ln ?_;intro yX l0
 refine jn rfl rfl (fun I=>?_) (fun I=>?_)
 ·
  replace I:i<(s.length:Int):=(of_decide_eq_true I)
  refine jF ?_
  refine l0 _ _ ?_;clear l0
  refine ln ?_;intro BA my
  refine uH ?_
  refine dE [] [0,3,6,7] (by decide) ?_
  intro aU aV
  refine ⟨bg,bg,?_⟩
  show aU [(0, .str s),(3,bl i),(6,bl (s.length:Int)),(7,bl i)] m
  refine aV _ _ ?_;clear aV aU
  refine dE [] [0,4,6,7] (by decide) ?_
  intro aU aV
  refine ⟨bg,bg,⟨(by omega),(by omega)⟩,bg,?_⟩
  show aU [(0, .str s),(4, .int .u8 ((aa s i).toNat)),(6,bl (s.length:Int)),(7,bl i)] m
  refine aV _ _ ?_;clear aV aU
  refine dE [] [0,6,7,30] (by decide) ?_
  intro aU aV
  suffices key:aU [(0, .str s),(6,bl (s.length:Int)),(7,bl i),(30, .bool ((((decide (((aa s i).toNat:Int)<97))||(decide (122<((aa s i).toNat:Int))))&&((decide (((aa s i).toNat:Int)<48))||(decide (57<((aa s i).toNat:Int)))))&&(!(((aa s i).toNat:Int)==46))))] m by
   refine ⟨bg,bg,bg,?_⟩
   show cF _ _ _ _ _ [(15, .bool (decide (((aa s i).toNat:Int)<97))),(14, .bool (decide (((aa s i).toNat:Int)<97))),(13, .int .u8 ((aa s i).toNat)),(0, .str s),(4, .int .u8 ((aa s i).toNat)),(6,bl (s.length:Int)),(7,bl i)] _
   revert key
   cases J:(decide (((aa s i).toNat:Int)<97))
   ·
    replace J:97≤((aa s i).toNat:Int):=(Int.not_lt.1 (of_decide_eq_false J))
    intro key
    refine ⟨bg,bg,?_⟩
    refine ⟨bg,?_⟩
    show cF _ _ _ _ _ [(19, .bool (decide (122<((aa s i).toNat:Int)))),(18, .bool (decide (122<((aa s i).toNat:Int)))),(17, .bool (decide (122<((aa s i).toNat:Int)))),(16, .int .u8 ((aa s i).toNat)),(15, .bool false),(14, .bool false),(13, .int .u8 ((aa s i).toNat)),(0, .str s),(4, .int .u8 ((aa s i).toNat)),(6,bl (s.length:Int)),(7,bl i)] _
    revert key
    cases ai:(decide (122<((aa s i).toNat:Int)))
    ·
     replace ai:((aa s i).toNat:Int)≤122:=(Int.not_lt.1 (of_decide_eq_false ai))
     intro key
     refine ga rfl (ga rfl (ga rfl (ga rfl (ga rfl (ga rfl ?_)))))
     refine ⟨bg,?_⟩
     refine ga rfl (ga rfl ?_)
     exact key
    ·
     replace ai:122<((aa s i).toNat:Int):=(of_decide_eq_true ai)
     intro key
     refine ⟨bg,bg,bg,?_⟩
     show cF _ _ _ _ _ [(22, .bool (decide (((aa s i).toNat:Int)<48))),(21, .bool (decide (((aa s i).toNat:Int)<48))),(20, .int .u8 ((aa s i).toNat)),(19, .bool true),(18, .bool true),(17, .bool true),(16, .int .u8 ((aa s i).toNat)),(15, .bool false),(14, .bool false),(13, .int .u8 ((aa s i).toNat)),(0, .str s),(4, .int .u8 ((aa s i).toNat)),(6,bl (s.length:Int)),(7,bl i)] _
     revert key
     cases aC:(decide (((aa s i).toNat:Int)<48))
     ·
      replace aC:48≤((aa s i).toNat:Int):=(Int.not_lt.1 (of_decide_eq_false aC))
      intro key
      refine ⟨bg,bg,?_⟩
      refine ⟨bg,?_⟩
      show cF _ _ _ _ _ [(27, .bool (decide (57<((aa s i).toNat:Int)))),(26, .bool (decide (57<((aa s i).toNat:Int)))),(25, .bool (decide (57<((aa s i).toNat:Int)))),(24, .bool (decide (57<((aa s i).toNat:Int)))),(23, .int .u8 ((aa s i).toNat)),(22, .bool false),(21, .bool false),(20, .int .u8 ((aa s i).toNat)),(19, .bool true),(18, .bool true),(17, .bool true),(16, .int .u8 ((aa s i).toNat)),(15, .bool false),(14, .bool false),(13, .int .u8 ((aa s i).toNat)),(0, .str s),(4, .int .u8 ((aa s i).toNat)),(6,bl (s.length:Int)),(7,bl i)] _
      revert key
      cases aN:(decide (57<((aa s i).toNat:Int)))
      ·
       replace aN:((aa s i).toNat:Int)≤57:=(Int.not_lt.1 (of_decide_eq_false aN))
       intro key
       refine ga rfl (ga rfl ?_)
       exact key
      ·
       replace aN:57<((aa s i).toNat:Int):=(of_decide_eq_true aN)
       intro key
       refine ⟨bg,bg,?_⟩
       exact key
     ·
      replace aC:((aa s i).toNat:Int)<48:=(of_decide_eq_true aC)
      intro key
      refine ga rfl (ga rfl ?_)
      refine ⟨bg,bg,bg,?_⟩
      exact key
   ·
    replace J:((aa s i).toNat:Int)<97:=(of_decide_eq_true J)
    intro key
    refine ga rfl (ga rfl ?_)
    refine ⟨bg,bg,bg,bg,?_⟩
    show cF _ _ _ _ _ [(22, .bool (decide (((aa s i).toNat:Int)<48))),(21, .bool (decide (((aa s i).toNat:Int)<48))),(20, .int .u8 ((aa s i).toNat)),(19, .bool true),(18, .bool true),(17, .lazy false (.aP)),(16, .lazy false (.aP)),(15, .bool true),(14, .bool true),(13, .int .u8 ((aa s i).toNat)),(0, .str s),(4, .int .u8 ((aa s i).toNat)),(6,bl (s.length:Int)),(7,bl i)] _
    revert key
    cases bE:(decide (((aa s i).toNat:Int)<48))
    ·
     replace bE:48≤((aa s i).toNat:Int):=(Int.not_lt.1 (of_decide_eq_false bE))
     intro key
     refine ⟨bg,bg,?_⟩
     refine ⟨bg,?_⟩
     show cF _ _ _ _ _ [(27, .bool (decide (57<((aa s i).toNat:Int)))),(26, .bool (decide (57<((aa s i).toNat:Int)))),(25, .bool (decide (57<((aa s i).toNat:Int)))),(24, .bool (decide (57<((aa s i).toNat:Int)))),(23, .int .u8 ((aa s i).toNat)),(22, .bool false),(21, .bool false),(20, .int .u8 ((aa s i).toNat)),(19, .bool true),(18, .bool true),(17, .lazy false (.aP)),(16, .lazy false (.aP)),(15, .bool true),(14, .bool true),(13, .int .u8 ((aa s i).toNat)),(0, .str s),(4, .int .u8 ((aa s i).toNat)),(6,bl (s.length:Int)),(7,bl i)] _
     revert key
     cases dk:(decide (57<((aa s i).toNat:Int)))
     ·
      replace dk:((aa s i).toNat:Int)≤57:=(Int.not_lt.1 (of_decide_eq_false dk))
      intro key
      refine ga rfl (ga rfl ?_)
      exact key
     ·
      replace dk:57<((aa s i).toNat:Int):=(of_decide_eq_true dk)
      intro key
      refine ⟨bg,bg,?_⟩
      exact key
    ·
     replace bE:((aa s i).toNat:Int)<48:=(of_decide_eq_true bE)
     intro key
     refine ga rfl (ga rfl ?_)
     refine ⟨bg,bg,bg,?_⟩
     exact key
  refine aV _ _ ?_;clear aV aU
  refine jn rfl rfl (fun cW=>?_) (fun cW=>?_)
  ·
   replace cW:(((((aa s i).toNat:Int)<97)∨(122<((aa s i).toNat:Int)))∧((((aa s i).toNat:Int)<48)∨(57<((aa s i).toNat:Int))))∧(((aa s i).toNat:Int)≠46):=⟨⟨((da (e4 (e4 cW))).imp (fun q=>(of_decide_eq_true q)) (fun q=>(of_decide_eq_true q))),((da (fY (e4 cW))).imp (fun q=>(of_decide_eq_true q)) (fun q=>(of_decide_eq_true q)))⟩,(ne_of_beq_false (dD (fY cW)))⟩
   refine dE [] [2] (by decide) ?_
   intro aU aV
   refine ⟨bg,?_⟩
   show aU [(2, .bool false)] m
   refine aV _ _ ?_;clear aV aU
   refine hU ?_
   refine ⟨bg,m,fun _ _ h=>h,?_⟩
   show K (.bool false) m
   refine e9 U (Il R.bool ?_)
   have ae:oF (aa s i)=false:=by
    rw [Bool.eq_false_iff];intro ba;simp [oF] at ba;omega
   have aH:s.all oF=false:=by
    rw [Bool.eq_false_iff];intro ba
    have:=List.all_eq_true.1 ba _ (ch aM.1 I)
    rw [ae] at this;cases this
   rw [ix,aH];rfl
  replace cW:(((97≤((aa s i).toNat:Int))∧(((aa s i).toNat:Int)≤122))∨((48≤((aa s i).toNat:Int))∧(((aa s i).toNat:Int)≤57)))∨(((aa s i).toNat:Int)=46):=((fZ cW).imp (fun q=>((fZ q).imp (fun q=>⟨(Int.not_lt.1 (of_decide_eq_false (bZ q))),(Int.not_lt.1 (of_decide_eq_false (c8 q)))⟩) (fun q=>⟨(Int.not_lt.1 (of_decide_eq_false (bZ q))),(Int.not_lt.1 (of_decide_eq_false (c8 q)))⟩))) (fun q=>(eq_of_beq (dC q))))
  refine jF ?_
  refine my _ _ ?_;clear my
  refine n9 [] [0,6,7] (by decide) ?_
  intro aU aV
  refine zV rfl (a:=i) (b:=1) rfl rfl (by omega) (by omega) ?_
  refine ⟨bg,?_⟩
  show aU [(0, .str s),(6,bl (s.length:Int)),(7,bl (i+1))] m
  refine aV _ _ ?_;clear aV aU
  refine ⟨(i+1),rfl,rfl,?_,?_⟩
  ·
   show 0≤((i+1:Int))∧((i+1:Int))≤s.length∧(s.take ((i+1:Int)).toNat).all oF=true
   have ae:oF (aa s i)=true:=by simp [oF];omega
   exact ⟨by omega,by omega,by rw [W1 aM.1 I,aM.2.2,ae];rfl⟩
  ·
   show s.length- ((i+1:Int)).toNat<s.length- i.toNat
   omega
 replace I:(s.length:Int)≤i:=(Int.not_lt.1 (of_decide_eq_false I))
 refine Cj ?_
 refine hl _ _ ?_;clear hl
 refine dE [] [2] (by decide) ?_
 intro aU aV
 suffices key:aU [(2, .bool ((!(s==([])))&&(decide ((s.length:Int)≤24))))] m by
  refine ⟨bg,bg,bg,?_⟩
  show cF _ _ _ _ _ [(34, .bool (!(s==([])))),(33, .bool (!(s==([])))),(32, .str s),(0, .str s),(6,bl (s.length:Int)),(7,bl i),(8, .bool (decide (i<(s.length:Int))))] _
  revert key
  cases dB:(s==([]))
  ·
   replace dB:s≠[]:=(ne_of_beq_false dB)
   intro key
   refine ⟨bg,bg,bg,?_⟩
   refine ⟨bg,?_⟩
   exact key
  ·
   replace dB:s=[]:=(eq_of_beq dB)
   intro key
   refine ga rfl (ga rfl (ga rfl ?_))
   refine ⟨bg,?_⟩
   exact key
 refine aV _ _ ?_;clear aV aU
 refine hU ?_
 refine ⟨bg,m,fun _ _ h=>h,?_⟩
 show K (.bool ((!(s==([])))&&(decide ((s.length:Int)≤24)))) m
 refine e9 U (Il R.bool ?_)
 have aH:s.all oF=true:=by have:=aM.2.2;rwa [jM (by omega)] at this
 rw [ix,aH];rfl
set_option maxHeartbeats 2000000 in
theorem W2 (d aT aG:Nat) (s:cz) (name:ak) (size:Int) (N:Nat) (cd:[d,aG].Nodup) (gD:hn N s) (ly:N≤100000) (aL:name.length≤140737488355328) (m:ad) (K:R→ad→Prop) (U:K (.err 115 (gN s name size)) (bX m [(d,bN aT aG s),(aG,aS s.now)])):bn Tryz.prog 161 [cS d, .str name,bl size] (bX m [(d,bN aT aG s),(aG,aS s.now)]) K:=by
 have hq:=gD.nl
 refine oS Tryz.func161 rfl (by decide) (dF rfl) ?_
 show b7 _ _ _ _ [(0,cS d),(1, .str name),(2,bl size)] (bX m [(d,bN aT aG s),(aG,aS s.now)])
 refine dE [] [0,1,2] (by decide) ?_
 intro aU aV
 refine ⟨bg,?_⟩
 show aU [(0,cS d),(1, .str name),(2,bl size)] _
 refine aV _ _ ?_;clear aV aU
 refine ln ?_;intro rp hl
 refine dE [] [0,1,2,11] (by decide) ?_
 intro aU aV
 refine ⟨bg,?_⟩
 refine FJ name (by first|assumption|omega) _ _ ?_
 refine ⟨bg,?_⟩
 show aU [(0,cS d),(1, .str name),(2,bl size),(11, .bool (!(ix name)))] _
 refine aV _ _ ?_;clear aV aU
 refine jn rfl rfl (fun I=>?_) (fun I=>?_)
 ·
  replace I:ix name=false:=(dD I)
  refine dE [] [6] (by decide) ?_
  intro aU aV
  refine ⟨bg,bg,?_⟩
  show aU [(6, .iface 115 (bl 3))] (bX m [(d,bN aT aG s),(aG,aS s.now)])
  refine aV _ _ ?_;clear aV aU
  refine mM 115 [6] ?_
  show b7 _ _ _ _ [(6, .err 115 3)] _
  refine hU ?_
  refine ⟨bg,(bX m [(d,bN aT aG s),(aG,aS s.now)]),fun _ _ h=>h,?_⟩
  show K (.err 115 3) _
  have bp:gN s name size=(3:Int):=by
   first|(rw [gN,if_pos I];done)|(rw [gN,if_neg (by simp [I]),if_pos J];done)|(rw [gN,if_neg (by simp [I]),if_neg (by omega),if_pos aC];done)|(rw [gN,if_neg (by simp [I]),if_neg (by omega),if_neg (by rintro ⟨x,y⟩;rcases aC with h|h<;>first|omega|simp_all)];done)
  rw [bp] at U
  exact U
 replace I:ix name=true:=(dC I)
 refine jF ?_
 refine hl _ _ ?_;clear hl
 refine ln ?_;intro yX l0
 refine dE [] [0,1,14] (by decide) ?_
 intro aU aV
 refine ⟨bg,bg,?_⟩
 show aU [(0,cS d),(1, .str name),(14, .bool (decide (4000<size)))] (bX m [(d,bN aT aG s),(aG,aS s.now)])
 refine aV _ _ ?_;clear aV aU
 refine jn rfl rfl (fun J=>?_) (fun J=>?_)
 ·
  replace J:4000<size:=(of_decide_eq_true J)
  refine dE [] [6] (by decide) ?_
  intro aU aV
  refine ⟨bg,bg,?_⟩
  show aU [(6, .iface 115 (bl 2))] (bX m [(d,bN aT aG s),(aG,aS s.now)])
  refine aV _ _ ?_;clear aV aU
  refine mM 115 [6] ?_
  show b7 _ _ _ _ [(6, .err 115 2)] _
  refine hU ?_
  refine ⟨bg,(bX m [(d,bN aT aG s),(aG,aS s.now)]),fun _ _ h=>h,?_⟩
  show K (.err 115 2) _
  have bp:gN s name size=(2:Int):=by
   first|(rw [gN,if_pos I];done)|(rw [gN,if_neg (by simp [I]),if_pos J];done)|(rw [gN,if_neg (by simp [I]),if_neg (by omega),if_pos aC];done)|(rw [gN,if_neg (by simp [I]),if_neg (by omega),if_neg (by rintro ⟨x,y⟩;rcases aC with h|h<;>first|omega|simp_all)];done)
  rw [bp] at U
  exact U
 replace J:size≤4000:=(Int.not_lt.1 (of_decide_eq_false J))
 refine jF ?_
 refine l0 _ _ ?_;clear l0
 refine dE [] [0,8] (by decide) ?_
 intro aU aV
 refine ⟨bg,bg,⟨rfl,by decide⟩,?_⟩
 refine ht rfl (v:= .map aG) rfl (fg 0 cd rfl) rfl (hb rfl rfl (dF rfl)) rfl ?_
 refine ⟨bg,?_⟩
 refine C9 rfl (m:=m) (L:=[(d,bN aT aG s),(aG,aS s.now)]) cf cf lK s.now name [] rfl rfl rfl rfl rfl (fg 1 cd rfl) rfl ?_
 refine ⟨bg,(dF rfl),(dF rfl),bg,bg,?_⟩
 show aU [(0,cS d),(8, .bool ((cn s.now name).isSome))] (bX m [(d,bN aT aG s),(aG,aS s.now)])
 refine aV _ _ ?_;clear aV aU
 refine ln ?_;intro BA my
 refine dE [] [34] (by decide) ?_
 intro aU aV
 suffices key:aU [(34, .bool ((!((cn s.now name).isSome))&&(decide (40≤(s.now.length:Int)))))] (bX m [(d,bN aT aG s),(aG,aS s.now)]) by
  refine ⟨bg,bg,bg,?_⟩
  show cF _ _ _ _ _ [(27, .bool (!((cn s.now name).isSome))),(26, .bool (!((cn s.now name).isSome))),(25, .bool ((cn s.now name).isSome)),(0,cS d),(8, .bool ((cn s.now name).isSome))] _
  revert key
  cases ai:((cn s.now name).isSome)
  ·
   replace ai:(cn s.now name).isSome=false:=ai
   intro key
   refine ⟨bg,bg,⟨rfl,by decide⟩,?_⟩
   refine ht rfl (v:= .map aG) rfl (fg 0 cd rfl) rfl (hb rfl rfl (dF rfl)) rfl ?_
   refine Qt rfl (m:=m) (L:=[(d,bN aT aG s),(aG,aS s.now)]) (C7 cf cf) s.now rfl rfl (fg 1 cd rfl) ?_
   refine ⟨bg,?_⟩
   exact key
  ·
   replace ai:(cn s.now name).isSome=true:=ai
   intro key
   refine ga rfl (ga rfl (ga rfl (ga rfl (ga rfl (ga rfl ?_)))))
   exact key
 refine aV _ _ ?_;clear aV aU
 refine jn rfl rfl (fun aC=>?_) (fun aC=>?_)
 ·
  replace aC:((cn s.now name).isSome=false)∧(40≤(s.now.length:Int)):=⟨(dD (e4 aC)),(of_decide_eq_true (fY aC))⟩
  refine dE [] [6] (by decide) ?_
  intro aU aV
  refine ⟨bg,bg,?_⟩
  show aU [(6, .iface 115 (bl 2))] (bX m [(d,bN aT aG s),(aG,aS s.now)])
  refine aV _ _ ?_;clear aV aU
  refine mM 115 [6] ?_
  show b7 _ _ _ _ [(6, .err 115 2)] _
  refine hU ?_
  refine ⟨bg,(bX m [(d,bN aT aG s),(aG,aS s.now)]),fun _ _ h=>h,?_⟩
  show K (.err 115 2) _
  have bp:gN s name size=(2:Int):=by
   first|(rw [gN,if_pos I];done)|(rw [gN,if_neg (by simp [I]),if_pos J];done)|(rw [gN,if_neg (by simp [I]),if_neg (by omega),if_pos aC];done)|(rw [gN,if_neg (by simp [I]),if_neg (by omega),if_neg (by rintro ⟨x,y⟩;rcases aC with h|h<;>first|omega|simp_all)];done)
  rw [bp] at U
  exact U
 replace aC:((cn s.now name).isSome=true)∨((s.now.length:Int)<40):=((fZ aC).imp (fun q=>(dC q)) (fun q=>(Int.not_le.1 (of_decide_eq_false q))))
 refine jF ?_
 refine my _ _ ?_;clear my
 refine dE [] [6] (by decide) ?_
 intro aU aV
 refine ⟨bg,?_⟩
 show aU [(6, .nilIface)] (bX m [(d,bN aT aG s),(aG,aS s.now)])
 refine aV _ _ ?_;clear aV aU
 refine mM 115 [6] ?_
 show b7 _ _ _ _ [(6, .err 115 0)] _
 refine hU ?_
 refine ⟨bg,(bX m [(d,bN aT aG s),(aG,aS s.now)]),fun _ _ h=>h,?_⟩
 show K (.err 115 0) _
 have bp:gN s name size=(0:Int):=by
  first|(rw [gN,if_pos I];done)|(rw [gN,if_neg (by simp [I]),if_pos J];done)|(rw [gN,if_neg (by simp [I]),if_neg (by omega),if_pos aC];done)|(rw [gN,if_neg (by simp [I]),if_neg (by omega),if_neg (by rintro ⟨x,y⟩;rcases aC with h|h<;>first|omega|simp_all)];done)
 rw [bp] at U
 exact U
set_option maxHeartbeats 2000000 in
theorem W3 (d aT aG:Nat) (s:cz) (name data:ak) (N:Nat) (cd:[d,aG].Nodup) (gD:hn N s) (ly:N≤100000) (aL:name.length≤140737488355328) (aY:data.length≤140737488355328) (m:ad) (K:R→ad→Prop) (U:K (.err 115 (eG s name data).2) (bX m [(d,bN aT aG (eG s name data).1),(aG,aS (eG s name data).1.now)])):bn Tryz.prog 100 [cS d, .str name, .str data] (bX m [(d,bN aT aG s),(aG,aS s.now)]) K:=by
 refine oS Tryz.func100 rfl (by decide) (dF rfl) ?_
 show b7 _ _ _ _ [(0,cS d),(1, .str name),(2, .str data)] (bX m [(d,bN aT aG s),(aG,aS s.now)])
 refine dE [] [0,1,2] (by decide) ?_
 intro aU aV
 refine ⟨bg,?_⟩
 show aU [(0,cS d),(1, .str name),(2, .str data)] _
 refine aV _ _ ?_;clear aV aU
 refine dE [] [0,1,2,7] (by decide) ?_
 intro aU aV
 refine ⟨bg,bg,bg,bg,?_⟩
 refine W2 d aT aG s name (data.length:Int) N cd gD ly (by first|assumption|omega) _ _ ?_
 show cF _ _ _ _ _ _ (bX m [(d,bN aT aG s),(aG,aS s.now)])
 refine ⟨bg,?_⟩
 show aU [(0,cS d),(1, .str name),(2, .str data),(7, .err 115 (gN s name (data.length:Int)))] _
 refine aV _ _ ?_;clear aV aU
 refine ln ?_;intro rp hl
 refine dE [] [0,1,2,7,14] (by decide) ?_
 intro aU aV
 refine ⟨bg,⟨rfl,rfl⟩,?_⟩
 show aU [(0,cS d),(1, .str name),(2, .str data),(7, .err 115 (gN s name (data.length:Int))),(14, .bool (!((gN s name (data.length:Int))==0)))] _
 refine aV _ _ ?_;clear aV aU
 refine jn rfl rfl (fun I=>?_) (fun I=>?_)
 ·
  replace I:(gN s name (data.length:Int))≠0:=(ne_of_beq_false (dD I))
  refine dE [] [6] (by decide) ?_
  intro aU aV
  refine ⟨bg,bg,?_⟩
  show aU [(6, .err 115 (gN s name (data.length:Int)))] (bX m [(d,bN aT aG s),(aG,aS s.now)])
  refine aV _ _ ?_;clear aV aU
  refine hU ?_
  refine ⟨bg,(bX m [(d,bN aT aG s),(aG,aS s.now)]),fun _ _ h=>h,?_⟩
  show K (.err 115 (gN s name (data.length:Int))) _
  have bp:eG s name data=((s,(gN s name (data.length:Int))):cz×Int):=by
   first|(rw [eG,if_pos I];done)|(rw [eG,if_neg (by omega)];done)
  rw [bp] at U
  exact U
 replace I:(gN s name (data.length:Int))=0:=(eq_of_beq (dC I))
 have u9:=LN I
 refine jF ?_
 refine hl _ _ ?_;clear hl
 refine dE [] [6] (by decide) ?_
 intro aU aV
 refine ⟨bg,bg,bg,⟨rfl,by simp only [List.forall_mem_cons];exact ⟨rfl,rfl,rfl,rfl,kV⟩,by simp only [List.forall_mem_cons];exact ⟨rfl,rfl,rfl,kV⟩⟩,?_⟩
 refine LI d aT aG s (⟨name,data,[],1⟩:e3) N cd gD ly (by first|assumption|(dsimp only;omega)|simp) _ _ ?_
 show cF _ _ _ _ _ _ (bX m [(d,bN aT aG ((gg s (⟨name,data,[],1⟩:e3)).1)),(aG,aS ((gg s (⟨name,data,[],1⟩:e3)).1.now))])
 refine ⟨bg,?_⟩
 show aU [(6, .err 115 ((gg s (⟨name,data,[],1⟩:e3)).2))] (bX m [(d,bN aT aG ((gg s (⟨name,data,[],1⟩:e3)).1)),(aG,aS ((gg s (⟨name,data,[],1⟩:e3)).1.now))])
 refine aV _ _ ?_;clear aV aU
 refine hU ?_
 refine ⟨bg,(bX m [(d,bN aT aG ((gg s (⟨name,data,[],1⟩:e3)).1)),(aG,aS ((gg s (⟨name,data,[],1⟩:e3)).1.now))]),fun _ _ h=>h,?_⟩
 show K (.err 115 ((gg s (⟨name,data,[],1⟩:e3)).2)) _
 have bp:eG s name data=(((gg s (⟨name,data,[],1⟩:e3)).1,(gg s (⟨name,data,[],1⟩:e3)).2):cz×Int):=by
  first|(rw [eG,if_pos I];done)|(rw [eG,if_neg (by omega)];done)
 rw [bp] at U
 exact U
set_option maxHeartbeats 2000000 in
theorem W4 (d aT aG:Nat) (s:cz) (name:ak) (cd:[d,aG].Nodup) (m:ad) (K:R→ad→Prop) (U:K (.tuple [.str (gE s name).1, .err 115 (gE s name).2]) (bX m [(d,bN aT aG s),(aG,aS s.now)])):bn Tryz.prog 97 [cS d, .str name] (bX m [(d,bN aT aG s),(aG,aS s.now)]) K:=by
 refine oS Tryz.func97 rfl (by decide) (dF rfl) ?_
 show b7 _ _ _ _ [(0,cS d),(1, .str name)] (bX m [(d,bN aT aG s),(aG,aS s.now)])
 refine dE [] [0,1] (by decide) ?_
 intro aU aV
 refine ⟨bg,bg,?_⟩
 show aU [(0,cS d),(1, .str name)] _
 refine aV _ _ ?_;clear aV aU
 refine ln ?_;intro rp hl
 refine dE [] [0,1,11] (by decide) ?_
 intro aU aV
 refine ⟨bg,bg,⟨rfl,by decide⟩,?_⟩
 refine ht rfl (v:= .bool s.down) rfl (fg 0 cd rfl) rfl (hb rfl rfl (dF rfl)) rfl ?_
 show aU [(0,cS d),(1, .str name),(11, .bool s.down)] _
 refine aV _ _ ?_;clear aV aU
 refine jn rfl rfl (fun I=>?_) (fun I=>?_)
 ·
  replace I:s.down=true:=I
  refine dE [] [4,5] (by decide) ?_
  intro aU aV
  refine ⟨bg,bg,bg,?_⟩
  show aU [(4, .str ([])),(5, .iface 115 (bl 10))] (bX m [(d,bN aT aG s),(aG,aS s.now)])
  refine aV _ _ ?_;clear aV aU
  refine mM 115 [5] ?_
  show b7 _ _ _ _ [(4, .str ([])),(5, .err 115 10)] _
  refine hU ?_
  refine ⟨bg,bg,(bX m [(d,bN aT aG s),(aG,aS s.now)]),fun _ _ h=>h,?_⟩
  show K (.tuple [.str ([]), .err 115 10]) _
  have bp:gE s name=(([],10):ak×Int):=by
   first|(rw [gE,if_pos I];done)|(rw [gE,if_neg (by simp [I]),if_pos J];done)|(rw [gE,if_neg (by simp [I]),if_neg (by simp [J])];done)
  rw [bp] at U
  exact U
 replace I:s.down=false:=I
 refine jF ?_
 refine hl _ _ ?_;clear hl
 refine dE [] [6,7] (by decide) ?_
 intro aU aV
 refine ⟨bg,bg,⟨rfl,by decide⟩,?_⟩
 refine ht rfl (v:= .map aG) rfl (fg 0 cd rfl) rfl (hb rfl rfl (dF rfl)) rfl ?_
 refine ⟨bg,?_⟩
 refine C9 rfl (m:=m) (L:=[(d,bN aT aG s),(aG,aS s.now)]) cf cf lK s.now name [] rfl rfl rfl rfl rfl (fg 1 cd rfl) rfl ?_
 refine ⟨bg,(dF rfl),(dF rfl),bg,bg,?_⟩
 show aU [(6, .str ((cn s.now name).getD [])),(7, .bool ((cn s.now name).isSome))] (bX m [(d,bN aT aG s),(aG,aS s.now)])
 refine aV _ _ ?_;clear aV aU
 refine ln ?_;intro yX l0
 refine dE [] [6,23] (by decide) ?_
 intro aU aV
 refine ⟨bg,bg,?_⟩
 show aU [(6, .str ((cn s.now name).getD [])),(23, .bool (!((cn s.now name).isSome)))] _
 refine aV _ _ ?_;clear aV aU
 refine jn rfl rfl (fun J=>?_) (fun J=>?_)
 ·
  replace J:(cn s.now name).isSome=false:=(dD J)
  refine dE [] [4,5] (by decide) ?_
  intro aU aV
  refine ⟨bg,bg,bg,?_⟩
  show aU [(4, .str ([])),(5, .iface 115 (bl 7))] (bX m [(d,bN aT aG s),(aG,aS s.now)])
  refine aV _ _ ?_;clear aV aU
  refine mM 115 [5] ?_
  show b7 _ _ _ _ [(4, .str ([])),(5, .err 115 7)] _
  refine hU ?_
  refine ⟨bg,bg,(bX m [(d,bN aT aG s),(aG,aS s.now)]),fun _ _ h=>h,?_⟩
  show K (.tuple [.str ([]), .err 115 7]) _
  have bp:gE s name=(([],7):ak×Int):=by
   first|(rw [gE,if_pos I];done)|(rw [gE,if_neg (by simp [I]),if_pos J];done)|(rw [gE,if_neg (by simp [I]),if_neg (by simp [J])];done)
  rw [bp] at U
  exact U
 replace J:(cn s.now name).isSome=true:=(dC J)
 refine jF ?_
 refine l0 _ _ ?_;clear l0
 refine dE [] [4,5] (by decide) ?_
 intro aU aV
 refine ⟨bg,bg,bg,?_⟩
 show aU [(4, .str ((cn s.now name).getD [])),(5, .nilIface)] (bX m [(d,bN aT aG s),(aG,aS s.now)])
 refine aV _ _ ?_;clear aV aU
 refine mM 115 [5] ?_
 show b7 _ _ _ _ [(4, .str ((cn s.now name).getD [])),(5, .err 115 0)] _
 refine hU ?_
 refine ⟨bg,bg,(bX m [(d,bN aT aG s),(aG,aS s.now)]),fun _ _ h=>h,?_⟩
 show K (.tuple [.str ((cn s.now name).getD []), .err 115 0]) _
 have bp:gE s name=(((cn s.now name).getD [],0):ak×Int):=by
  first|(rw [gE,if_pos I];done)|(rw [gE,if_neg (by simp [I]),if_pos J];done)|(rw [gE,if_neg (by simp [I]),if_neg (by simp [J])];done)
 rw [bp] at U
 exact U
theorem W5 {l:List (ak×ak)} {cs:List e3} {i:Int} (aq:0≤i) (ab:i<cs.length):eN (nP l (cs.take i.toNat)) (aa cs i)=nP l (cs.take (i+1).toNat):=by
 rw [lP aq ab,nP,nP,List.foldl_append];rfl
set_option maxHeartbeats 4000000 in
theorem W6 (d aT aG:Nat) (s:cz) (N:Nat) (cd:[d,aT].Nodup) (gD:hn N s) (ly:N≤100000) (m:ad) (K:R→ad→Prop) (U:K (.err 115 (ej s).2) (bX m [(d,bN aT aG (ej s).1),(aT,aS (ej s).1.kept)])):bn Tryz.prog 101 [cS d] (bX m [(d,bN aT aG s),(aT,aS s.kept)]) K:=by
 have aj:=pd s
 have o9:=aj.2.2.1
 have WV:=gD.wo
 have WW:(a7 s).1.wait.length≤100000:=by rw [o9];omega
 refine oS Tryz.func101 rfl (by decide) (dF rfl) ?_
 show b7 _ _ _ _ [(0,cS d)] (bX m [(d,bN aT aG s),(aT,aS s.kept)])
 refine dE [] [0] (by decide) ?_
 intro aU aV
 refine ⟨bg,?_⟩
 show aU [(0,cS d)] _
 refine aV _ _ ?_;clear aV aU
 refine dE [] [0,3] (by decide) ?_
 intro aU aV
 refine ⟨bg,?_⟩
 refine u5 (r7 cd (nv [0] _)) ?_
 refine FC d aT aG s gD.uh (by have:=gD.nz;omega) gD.ui gD.uj _ _ ?_
 refine u5 (r7 (m:=m) (L:=[(d,bN aT aG ((a7 s).1)),(aT,aS s.kept)]) cd (nv [0] _)).symm ?_
 refine ⟨bg,?_⟩
 show aU [(0,cS d),(3, .err 115 ((a7 s).2))] (bX m [(d,bN aT aG ((a7 s).1)),(aT,aS s.kept)])
 refine aV _ _ ?_;clear aV aU
 refine ln ?_;intro rp hl
 refine dE [] [0,3,9] (by decide) ?_
 intro aU aV
 refine ⟨bg,⟨rfl,rfl⟩,?_⟩
 show aU [(0,cS d),(3, .err 115 ((a7 s).2)),(9, .bool (!(((a7 s).2)==0)))] _
 refine aV _ _ ?_;clear aV aU
 refine jn rfl rfl (fun I=>?_) (fun I=>?_)
 ·
  replace I:(a7 s).2≠0:=(ne_of_beq_false (dD I))
  refine dE [] [2] (by decide) ?_
  intro aU aV
  refine ⟨bg,bg,?_⟩
  show aU [(2, .err 115 ((a7 s).2))] (bX m [(d,bN aT aG ((a7 s).1)),(aT,aS s.kept)])
  refine aV _ _ ?_;clear aV aU
  refine hU ?_
  refine ⟨bg,(bX m [(d,bN aT aG ((a7 s).1)),(aT,aS s.kept)]),fun _ _ h=>h,?_⟩
  show K (.err 115 ((a7 s).2)) _
  have bp:ej s=(((⟨s.kept,((a7 s).1).now,((a7 s).1).wait,((a7 s).1).cu,(((a7 s).1).down),((a7 s).1).steps⟩:cz),(a7 s).2):cz×Int):=by
   first|(rw [ej,if_pos I,←aj.1];done)|(have e:=aM.2.2;rw [jM J,o9] at e;rw [ej,if_neg (by omega),←e,←aj.2.1];done)
  rw [bp] at U
  exact U
 replace I:(a7 s).2=0:=(eq_of_beq (dC I))
 refine jF ?_
 refine hl _ _ ?_;clear hl
 refine ln ?_;intro yX l0
 refine dE [] [0,14,15,16] (by decide) ?_
 intro aU aV
 refine ⟨bg,bg,⟨rfl,by decide⟩,?_⟩
 refine ht rfl (v:=oX ((((a7 s).1).wait).map di)) rfl (fg 0 cd rfl) rfl (hb rfl rfl (dF rfl)) rfl ?_
 refine Qh rfl di (((a7 s).1).wait) rfl rfl rfl ?_
 refine ⟨bg,?_⟩
 show aU [(0,cS d),(14,oX ((((a7 s).1).wait).map di)),(15,bl ((((a7 s).1).wait).length:Int)),(16,bl 0)] (bX m [(d,bN aT aG ((a7 s).1)),(aT,aS s.kept)])
 refine aV _ _ ?_;clear aV aU
 refine uH ?_
 refine HB [0,14,15,16] (by decide) ?_
 refine CT (σ:=Int×(List (ak×ak))) (fun ⟨i,gb⟩=>[(0,cS d),(14,oX ((((a7 s).1).wait).map di)),(15,bl ((((a7 s).1).wait).length:Int)),(16,bl i)]) (fun ⟨i,gb⟩=>(bX m [(d,bN aT aG ((a7 s).1)),(aT,aS gb)])) (fun ⟨i,gb⟩=>0≤i∧i≤(a7 s).1.wait.length∧gb=nP s.kept ((a7 s).1.wait.take i.toNat)) (fun ⟨i,gb⟩=>(a7 s).1.wait.length- i.toNat) (0,s.kept) rfl rfl ?_ ?_
 ·
  show 0≤((0:Int))∧((0:Int))≤(a7 s).1.wait.length∧((s.kept:(List (ak×ak))))=nP s.kept ((a7 s).1.wait.take ((0:Int)).toNat)
  exact ⟨by omega,by omega,rfl⟩
 rintro ⟨i,gb⟩ aM
 replace aM:0≤i∧i≤(a7 s).1.wait.length∧gb=nP s.kept ((a7 s).1.wait.take i.toNat):=aM
 show b7 _ _ _ _ [(0,cS d),(14,oX ((((a7 s).1).wait).map di)),(15,bl ((((a7 s).1).wait).length:Int)),(16,bl i)] (bX m [(d,bN aT aG ((a7 s).1)),(aT,aS gb)])
 refine dE [] [0,14,15,16,17] (by decide) ?_
 intro aU aV
 refine ⟨bg,?_⟩
 show aU [(0,cS d),(14,oX ((((a7 s).1).wait).map di)),(15,bl ((((a7 s).1).wait).length:Int)),(16,bl i),(17, .bool (decide (i<((((a7 s).1).wait).length:Int))))] _
 refine aV _ _ ?_;clear aV aU
 refine ln ?_;intro BA my
 refine jn rfl rfl (fun J=>?_) (fun J=>?_)
 ·
  replace J:i<((((a7 s).1).wait).length:Int):=(of_decide_eq_true J)
  have aaM:=gD.hc (aa (a7 s).1.wait i) (by rw [o9];exact ch aM.1 (by rw [←o9];exact J))
  have pw:=LH (cs:=(a7 s).1.wait.take i.toNat) (fun c ag=>gD.hc c (by rw [←o9];exact List.mem_of_mem_take ag)) (l:=s.kept) (B:=400000000) (fun p aB=>by have:=gD.aT p aB;omega)
  rw [←aM.2.2,List.length_take] at pw
  refine jF ?_
  refine my _ _ ?_;clear my
  refine ln ?_;intro aaN LO
  refine uH ?_
  refine dE [] [0,5,14,15,16] (by decide) ?_
  intro aU aV
  refine Qg rfl di (((a7 s).1).wait) i rfl rfl rfl rfl rfl (by decide) (fun _=>rfl) (by omega) (by omega) ?_
  refine ⟨(rY rfl rfl (dF rfl)),?_⟩
  refine Qm rfl (z:= .agg [.str ([]), .str ([]), .str ([]),bl 0]) rfl rfl ?_
  intro bH iO
  have lZ:m bH=none:=u4 iO
  have dx:([bH,d,aT]:List Nat).Nodup:=u3 iO cd
  refine r6 rfl 0 (v:=di (aa (((a7 s).1).wait) i)) (l':=[.str ((aa (((a7 s).1).wait) i).name), .str ((aa (((a7 s).1).wait) i).data), .str ((aa (((a7 s).1).wait) i).to),bl ((aa (((a7 s).1).wait) i).kind)]) rfl (by rfl) dx rfl rfl rfl rfl rfl (dF rfl) rfl ?_
  show aU [(0,cS d),(5,cS bH),(14,oX ((((a7 s).1).wait).map di)),(15,bl ((((a7 s).1).wait).length:Int)),(16,bl i)] (bX m [(bH, .cells [.str ((aa (((a7 s).1).wait) i).name), .str ((aa (((a7 s).1).wait) i).data), .str ((aa (((a7 s).1).wait) i).to),bl ((aa (((a7 s).1).wait) i).kind)]),(d,bN aT aG ((a7 s).1)),(aT,aS gb)])
  refine aV _ _ ?_;clear aV aU
  refine H7 Tryz.mixed [(5,25)] [(5,25, .tuple [])] [(bX m [(bH, .cells [.str ((aa (((a7 s).1).wait) i).name), .str ((aa (((a7 s).1).wait) i).data), .str ((aa (((a7 s).1).wait) i).to),bl ((aa (((a7 s).1).wait) i).kind)]),(d,bN aT aG ((a7 s).1)),(aT,aS gb)]),(bX m [(bH, .cells [.str ((aa (((a7 s).1).wait) i).name), .str ((aa (((a7 s).1).wait) i).data), .str ((aa (((a7 s).1).wait) i).to),bl ((aa (((a7 s).1).wait) i).kind)]),(d,bN aT aG ((a7 s).1)),(aT,aS (eN gb (aa (((a7 s).1).wait) i)))])] [] [0,14,15,16] [(24, .agg [.str ((aa (((a7 s).1).wait) i).name), .str ((aa (((a7 s).1).wait) i).data), .str ((aa (((a7 s).1).wait) i).to),bl ((aa (((a7 s).1).wait) i).kind)]),(23, .map aT),(22,cS d),(21,cS d),(20,cS d),(25, .tuple []),(0,cS d),(5,cS bH),(14,oX ((((a7 s).1).wait).map di)),(15,bl ((((a7 s).1).wait).length:Int)),(16,bl i)] (bX m [(bH, .cells [.str ((aa (((a7 s).1).wait) i).name), .str ((aa (((a7 s).1).wait) i).data), .str ((aa (((a7 s).1).wait) i).to),bl ((aa (((a7 s).1).wait) i).kind)]),(d,bN aT aG ((a7 s).1)),(aT,aS (eN gb (aa (((a7 s).1).wait) i)))]) (by decide) (by decide) (by decide) rfl rfl rfl rfl ?_ ?_ ?_
  ·
   refine ⟨?_,bg⟩
   ·
    exact H8 (r7 (m:=m) (L:=[(bH, .cells [.str ((aa (((a7 s).1).wait) i).name), .str ((aa (((a7 s).1).wait) i).data), .str ((aa (((a7 s).1).wait) i).to),bl ((aa (((a7 s).1).wait) i).kind)]),(d,bN aT aG ((a7 s).1)),(aT,aS gb)]) dx (nv [2] _)) (r7 (m:=m) (L:=[(bH, .cells [.str ((aa (((a7 s).1).wait) i).name), .str ((aa (((a7 s).1).wait) i).data), .str ((aa (((a7 s).1).wait) i).to),bl ((aa (((a7 s).1).wait) i).kind)]),(d,bN aT aG ((a7 s).1)),(aT,aS (eN gb (aa (((a7 s).1).wait) i)))]) dx (nv [2] _)) (fun FE FF=>LC aT gb (aa (((a7 s).1).wait) i) (by have:=pw.1;omega) (fun p aB=>by have:=pw.2 p aB;omega) (by first|omega|(dsimp only;omega)) _ FE FF)
  ·
   refine ⟨?_,?_,bg⟩
   ·
    show hN _ _ _ _ _ [(25, .tuple []),(0,cS d),(5,cS bH),(14,oX ((((a7 s).1).wait).map di)),(15,bl ((((a7 s).1).wait).length:Int)),(16,bl i)] _
    refine ⟨bg,bg,⟨rfl,by decide⟩,?_⟩
    refine rZ rfl (v:= .map aT) rfl (fg 1 dx rfl) (hb rfl rfl (dF rfl)) rfl ?_
    refine rZ rfl (v:= .agg [.str ((aa (((a7 s).1).wait) i).name), .str ((aa (((a7 s).1).wait) i).data), .str ((aa (((a7 s).1).wait) i).to),bl ((aa (((a7 s).1).wait) i).kind)]) rfl (fg 0 dx rfl) (rY rfl rfl (dF rfl)) rfl ?_
    exact rfl
   ·
    show hN _ _ _ _ _ [(25, .tuple []),(0,cS d),(5,cS bH),(14,oX ((((a7 s).1).wait).map di)),(15,bl ((((a7 s).1).wait).length:Int)),(16,bl i)] _
    refine ⟨bg,bg,⟨rfl,by decide⟩,?_⟩
    refine rZ rfl (v:= .map aT) rfl (fg 1 dx rfl) (hb rfl rfl (dF rfl)) rfl ?_
    refine rZ rfl (v:= .agg [.str ((aa (((a7 s).1).wait) i).name), .str ((aa (((a7 s).1).wait) i).data), .str ((aa (((a7 s).1).wait) i).to),bl ((aa (((a7 s).1).wait) i).kind)]) rfl (fg 0 dx rfl) (rY rfl rfl (dF rfl)) rfl ?_
    exact rfl
  intro aU aV
  show aU [(0,cS d),(14,oX ((((a7 s).1).wait).map di)),(15,bl ((((a7 s).1).wait).length:Int)),(16,bl i)] (bX m [(bH, .cells [.str ((aa (((a7 s).1).wait) i).name), .str ((aa (((a7 s).1).wait) i).data), .str ((aa (((a7 s).1).wait) i).to),bl ((aa (((a7 s).1).wait) i).kind)]),(d,bN aT aG ((a7 s).1)),(aT,aS (eN gb (aa (((a7 s).1).wait) i)))])
  refine aV _ _ ?_;clear aV aU
  refine LO _ _ ?_;clear LO
  have aaO:([d,aT]:List Nat).Nodup:=QE (L:=[(bH, .cells [.str ((aa (((a7 s).1).wait) i).name), .str ((aa (((a7 s).1).wait) i).data), .str ((aa (((a7 s).1).wait) i).to),bl ((aa (((a7 s).1).wait) i).kind)]),(d,bN aT aG ((a7 s).1)),(aT,aS (eN gb (aa (((a7 s).1).wait) i)))]) dx (nv [0] _)
  refine QF [(bH, .cells [.str ((aa (((a7 s).1).wait) i).name), .str ((aa (((a7 s).1).wait) i).data), .str ((aa (((a7 s).1).wait) i).to),bl ((aa (((a7 s).1).wait) i).kind)])] [(d,bN aT aG ((a7 s).1)),(aT,aS (eN gb (aa (((a7 s).1).wait) i)))] dx (nv [0] _) (by simp only [List.map_cons,List.map_nil,List.forall_mem_cons];exact ⟨lZ,kV⟩) ?_
  refine n9 [] [0,14,15,16] (by decide) ?_
  intro aU aV
  refine zV rfl (a:=i) (b:=1) rfl rfl (by omega) (by omega) ?_
  refine ⟨bg,?_⟩
  show aU [(0,cS d),(14,oX ((((a7 s).1).wait).map di)),(15,bl ((((a7 s).1).wait).length:Int)),(16,bl (i+1))] (bX m [(d,bN aT aG ((a7 s).1)),(aT,aS (eN gb (aa (((a7 s).1).wait) i)))])
  refine aV _ _ ?_;clear aV aU
  refine ⟨(i+1,eN gb (aa (((a7 s).1).wait) i)),rfl,rfl,?_,?_⟩
  ·
   show 0≤((i+1:Int))∧((i+1:Int))≤(a7 s).1.wait.length∧((eN gb (aa (((a7 s).1).wait) i):(List (ak×ak))))=nP s.kept ((a7 s).1.wait.take ((i+1:Int)).toNat)
   exact ⟨by omega,by omega,by rw [aM.2.2];exact W5 aM.1 J⟩
  ·
   show (a7 s).1.wait.length- ((i+1:Int)).toNat<(a7 s).1.wait.length- i.toNat
   omega
 replace J:((((a7 s).1).wait).length:Int)≤i:=(Int.not_lt.1 (of_decide_eq_false J))
 refine Cj ?_
 refine l0 _ _ ?_;clear l0
 refine dE [] [] (by decide) ?_
 intro aU aV
 refine ⟨bg,bg,⟨rfl,by decide⟩,?_⟩
 refine r6 rfl 0 (v:= .slice true []) (l':=[.map aT, .map aG, .slice true [],bl (((a7 s).1).cu), .bool (((a7 s).1).down),bl (((a7 s).1).steps)]) rfl rfl cd rfl rfl rfl rfl rfl (dF rfl) rfl ?_
 show aU [] (bX m [(d, .cells [.map aT, .map aG, .slice true [],bl (((a7 s).1).cu), .bool (((a7 s).1).down),bl (((a7 s).1).steps)]),(aT,aS gb)])
 refine aV _ _ ?_;clear aV aU
 refine dE [] [2] (by decide) ?_
 intro aU aV
 refine ⟨bg,?_⟩
 show aU [(2, .nilIface)] _
 refine aV _ _ ?_;clear aV aU
 refine mM 115 [2] ?_
 show b7 _ _ _ _ [(2, .err 115 0)] _
 refine hU ?_
 refine ⟨bg,(bX m [(d, .cells [.map aT, .map aG, .slice true [],bl (((a7 s).1).cu), .bool (((a7 s).1).down),bl (((a7 s).1).steps)]),(aT,aS gb)]),fun _ _ h=>h,?_⟩
 show K (.err 115 0) _
 have bp:ej s=(((⟨gb,s.now,[],((a7 s).1).cu,(((a7 s).1).down),((a7 s).1).steps⟩:cz),0):cz×Int):=by
  first|(rw [ej,if_pos I,←aj.1];done)|(have e:=aM.2.2;rw [jM J,o9] at e;rw [ej,if_neg (by omega),←e,←aj.2.1];done)
 rw [bp] at U
 exact U
theorem yY (m:ad) (K:R→ad→Prop) (U:∀d aG aT,([d,aG,aT]:List Nat).Nodup→m d=none→m aG=none→m aT=none→K (cS d) (bX m [(d,bN aT aG ⟨[],[],[],-1,false,0⟩),(aG,aS []),(aT,aS [])])):bn Tryz.prog 40 [] m K:=by
 refine oS Tryz.func40 rfl (by decide) (dF rfl) ?_
 show b7 _ _ _ _ [] m
 refine dE [] [] (by decide) ?_
 intro aU aV
 refine ⟨bg,?_⟩
 show aU [] m
 refine aV _ _ ?_;clear aV aU
 refine dE [] [0] (by decide) ?_
 intro aU aV
 refine HO rfl (m:=m) (L:=[]) rfl ?_
 intro bH iO
 have lZ:m bH=none:=u4 (m:=m) (L:=[]) iO
 have dx:([bH]:List Nat).Nodup:=u3 (m:=m) (L:=[]) iO List.nodup_nil
 refine HO rfl (m:=m) (L:=[(bH,aS ([]:List ((List UInt8)×(List UInt8))))]) rfl ?_
 intro ho jK
 have W7:m ho=none:=u4 jK
 have W8:([ho,bH]:List Nat).Nodup:=u3 jK dx
 refine ⟨⟨rfl,by simp only [List.forall_mem_cons];exact ⟨rfl,rfl,rfl,rfl,rfl,rfl,kV⟩,by simp only [List.forall_mem_cons];exact ⟨rfl,rfl,rfl,kV⟩⟩,?_⟩
 refine C3 rfl (m:=m) (L:=[(ho,aS ([]:List ((List UInt8)×(List UInt8)))),(bH,aS ([]:List ((List UInt8)×(List UInt8))))]) (v:= .agg [.map bH, .map ho, .slice true [],bl (-1), .bool false,bl 0]) rfl rfl ?_
 intro jQ AZ
 have W9:m jQ=none:=u4 AZ
 have Xa:([jQ,ho,bH]:List Nat).Nodup:=u3 AZ W8
 refine ⟨bg,?_⟩
 show aU [(0,cS jQ)] (bX m [(jQ, .cells [.map bH, .map ho, .slice true [],bl (-1), .bool false,bl 0]),(ho,aS ([]:List ((List UInt8)×(List UInt8)))),(bH,aS ([]:List ((List UInt8)×(List UInt8))))])
 refine aV _ _ ?_;clear aV aU
 refine hU ?_
 refine ⟨bg,(bX m [(jQ, .cells [.map bH, .map ho, .slice true [],bl (-1), .bool false,bl 0]),(ho,aS ([]:List ((List UInt8)×(List UInt8)))),(bH,aS ([]:List ((List UInt8)×(List UInt8))))]),fun _ _ h=>h,?_⟩
 show K (cS jQ) _
 exact U jQ ho bH Xa W9 W7 lZ
end Go.Proofs
end
section
namespace Go.Proofs
open Go Go.bh
set_option maxRecDepth 100000
def dP (s:cz) (n t:ak):cz×Int:=
 if ix n=false∨ix t=false then (s,3) else if (cn s.now n).isSome=false then (s,7) else if n=t then a7 s else gg s ⟨n,[],t,4⟩
set_option maxHeartbeats 2000000 in
theorem Xb (d aT aG:Nat) (s:cz) (name to:ak) (N:Nat) (cd:[d,aG].Nodup) (gD:hn N s) (ly:N≤100000) (aL:name.length≤140737488355328) (aY:to.length≤140737488355328) (m:ad) (K:R→ad→Prop) (U:K (.err 115 (dP s name to).2) (ad.aX m [(d,bN aT aG (dP s name to).1),(aG,aS (dP s name to).1.now)])):bn Tryz.prog 103 [.ptr ⟨d,0,none⟩, .str name, .str to] (ad.aX m [(d,bN aT aG s),(aG,aS s.now)]) K:=by
 have BD:=(pd s).2.1
 refine oS Tryz.func103 rfl (by decide) (Nat.le_of_ble_eq_true rfl) ?_
 show b7 _ _ _ _ [(0, .ptr ⟨d,0,none⟩),(1, .str name),(2, .str to)] (ad.aX m [(d,bN aT aG s),(aG,aS s.now)])
 refine mL [] [0,1,2] (by decide) ?_
 intro aU aV
 refine ⟨trivial,?_⟩
 show aU [(0, .ptr ⟨d,0,none⟩),(1, .str name),(2, .str to)] _
 refine aV _ _ ?_;clear aV aU
 refine rJ ?_;intro rp hl
 refine mL [] [0,1,2,16] (by decide) ?_
 intro aU aV
 suffices key:aU [(0, .ptr ⟨d,0,none⟩),(1, .str name),(2, .str to),(16, .bool ((!(ix name))||(!(ix to))))] (ad.aX m [(d,bN aT aG s),(aG,aS s.now)]) by
  refine ⟨trivial,?_⟩
  refine FJ name (by first|assumption|omega) _ _ ?_
  refine ⟨trivial,trivial,?_⟩
  show cF _ _ _ _ _ [(12, .bool (!(ix name))),(11, .bool (!(ix name))),(10, .bool (ix name)),(9, .str name),(0, .ptr ⟨d,0,none⟩),(1, .str name),(2, .str to)] _
  revert key
  cases I:(ix name)
  ·
   replace I:ix name=false:=I
   intro key
   refine ga rfl (ga rfl (ga rfl ?_))
   exact key
  ·
   replace I:ix name=true:=I
   intro key
   refine ⟨trivial,?_⟩
   refine FJ to (by first|assumption|omega) _ _ ?_
   refine ⟨trivial,?_⟩
   exact key
 refine aV _ _ ?_;clear aV aU
 refine uI rfl rfl (fun J=>?_) (fun J=>?_)
 ·
  replace J:(ix name=false)∨(ix to=false):=((da J).imp (fun q=>(dD q)) (fun q=>(dD q)))
  refine mL [] [6] (by decide) ?_
  intro aU aV
  refine ⟨trivial,trivial,?_⟩
  show aU [(6, .iface 115 (.int .i64 3))] (ad.aX m [(d,bN aT aG s),(aG,aS s.now)])
  refine aV _ _ ?_;clear aV aU
  refine mM 115 [6] ?_
  show b7 _ _ _ _ [(6, .err 115 3)] _
  refine hU ?_
  refine ⟨trivial,(ad.aX m [(d,bN aT aG s),(aG,aS s.now)]),fun _ _ h=>h,?_⟩
  show K (.err 115 3) _
  have bp:dP s name to=((s,3):cz×Int):=by
   first|(rw [dP,if_pos (by assumption)];done)|(rw [dP,if_neg (by simp_all),if_pos (by simp_all)];done)|(rw [dP,if_neg (by simp_all),if_neg (by simp_all),if_pos (by assumption),←BD];done)|(rw [dP,if_neg (by simp_all),if_neg (by simp_all),if_neg (by assumption)];done)
  rw [bp] at U
  exact U
 replace J:(ix name=true)∧(ix to=true):=⟨(dC (bZ J)),(dC (c8 J))⟩
 refine jF ?_
 refine hl _ _ ?_;clear hl
 refine mL [] [0,1,2,8] (by decide) ?_
 intro aU aV
 refine ⟨trivial,trivial,⟨rfl,by decide⟩,?_⟩
 refine HG rfl (v:= .map aG) rfl (oa 0 cd rfl) rfl (CS rfl rfl (Nat.le_of_ble_eq_true rfl)) rfl ?_
 refine ⟨trivial,?_⟩
 refine C9 rfl (m:=m) (L:=[(d,bN aT aG s),(aG,aS s.now)]) cf cf lK s.now name [] rfl rfl rfl rfl rfl (oa 1 cd rfl) rfl ?_
 refine ⟨trivial,(Nat.le_of_ble_eq_true rfl),(Nat.le_of_ble_eq_true rfl),trivial,trivial,?_⟩
 show aU [(0, .ptr ⟨d,0,none⟩),(1, .str name),(2, .str to),(8, .bool ((cn s.now name).isSome))] (ad.aX m [(d,bN aT aG s),(aG,aS s.now)])
 refine aV _ _ ?_;clear aV aU
 refine rJ ?_;intro yX l0
 refine mL [] [0,1,2,28] (by decide) ?_
 intro aU aV
 refine ⟨trivial,trivial,?_⟩
 show aU [(0, .ptr ⟨d,0,none⟩),(1, .str name),(2, .str to),(28, .bool (!((cn s.now name).isSome)))] _
 refine aV _ _ ?_;clear aV aU
 refine uI rfl rfl (fun ai=>?_) (fun ai=>?_)
 ·
  replace ai:(cn s.now name).isSome=false:=(dD ai)
  refine mL [] [6] (by decide) ?_
  intro aU aV
  refine ⟨trivial,trivial,?_⟩
  show aU [(6, .iface 115 (.int .i64 7))] (ad.aX m [(d,bN aT aG s),(aG,aS s.now)])
  refine aV _ _ ?_;clear aV aU
  refine mM 115 [6] ?_
  show b7 _ _ _ _ [(6, .err 115 7)] _
  refine hU ?_
  refine ⟨trivial,(ad.aX m [(d,bN aT aG s),(aG,aS s.now)]),fun _ _ h=>h,?_⟩
  show K (.err 115 7) _
  have bp:dP s name to=((s,7):cz×Int):=by
   first|(rw [dP,if_pos (by assumption)];done)|(rw [dP,if_neg (by simp_all),if_pos (by simp_all)];done)|(rw [dP,if_neg (by simp_all),if_neg (by simp_all),if_pos (by assumption),←BD];done)|(rw [dP,if_neg (by simp_all),if_neg (by simp_all),if_neg (by assumption)];done)
  rw [bp] at U
  exact U
 replace ai:(cn s.now name).isSome=true:=(dC ai)
 refine jF ?_
 refine l0 _ _ ?_;clear l0
 refine rJ ?_;intro BA my
 refine mL [] [0,1,2,32] (by decide) ?_
 intro aU aV
 refine ⟨trivial,trivial,trivial,?_⟩
 show aU [(0, .ptr ⟨d,0,none⟩),(1, .str name),(2, .str to),(32, .bool (name==to))] (ad.aX m [(d,bN aT aG s),(aG,aS s.now)])
 refine aV _ _ ?_;clear aV aU
 refine uI rfl rfl (fun aC=>?_) (fun aC=>?_)
 ·
  replace aC:name=to:=(eq_of_beq aC)
  refine mL [] [6] (by decide) ?_
  intro aU aV
  refine ⟨trivial,?_⟩
  refine u5 (C2 cd (nv [0] _)) ?_
  refine FC d aT aG s gD.uh (by have:=gD.nz;omega) gD.ui gD.uj _ _ ?_
  refine u5 (C2 (m:=m) (L:=[(d,bN aT aG ((a7 s).1)),(aG,aS s.now)]) cd (nv [0] _)).symm ?_
  refine ⟨trivial,?_⟩
  show aU [(6, .err 115 ((a7 s).2))] (ad.aX m [(d,bN aT aG ((a7 s).1)),(aG,aS s.now)])
  refine aV _ _ ?_;clear aV aU
  refine hU ?_
  refine ⟨trivial,(ad.aX m [(d,bN aT aG ((a7 s).1)),(aG,aS s.now)]),fun _ _ h=>h,?_⟩
  show K (.err 115 ((a7 s).2)) _
  have bp:dP s name to=(((⟨((a7 s).1).kept,s.now,((a7 s).1).wait,((a7 s).1).cu,(((a7 s).1).down),((a7 s).1).steps⟩:cz),(a7 s).2):cz×Int):=by
   first|(rw [dP,if_pos (by assumption)];done)|(rw [dP,if_neg (by simp_all),if_pos (by simp_all)];done)|(rw [dP,if_neg (by simp_all),if_neg (by simp_all),if_pos (by assumption),←BD];done)|(rw [dP,if_neg (by simp_all),if_neg (by simp_all),if_neg (by assumption)];done)
  rw [bp] at U
  exact U
 replace aC:name≠to:=(ne_of_beq_false aC)
 refine jF ?_
 refine my _ _ ?_;clear my
 refine mL [] [6] (by decide) ?_
 intro aU aV
 refine ⟨trivial,trivial,trivial,⟨rfl,by simp only [List.forall_mem_cons];exact ⟨rfl,rfl,rfl,rfl,fun _ h=>by cases h⟩,by simp only [List.forall_mem_cons];exact ⟨rfl,rfl,rfl,fun _ h=>by cases h⟩⟩,?_⟩
 refine LI d aT aG s (⟨name,[],to,4⟩:e3) N cd gD ly (by first|assumption|(dsimp only;omega)|simp) _ _ ?_
 show cF _ _ _ _ _ _ (ad.aX m [(d,bN aT aG ((gg s (⟨name,[],to,4⟩:e3)).1)),(aG,aS ((gg s (⟨name,[],to,4⟩:e3)).1.now))])
 refine ⟨trivial,?_⟩
 show aU [(6, .err 115 ((gg s (⟨name,[],to,4⟩:e3)).2))] (ad.aX m [(d,bN aT aG ((gg s (⟨name,[],to,4⟩:e3)).1)),(aG,aS ((gg s (⟨name,[],to,4⟩:e3)).1.now))])
 refine aV _ _ ?_;clear aV aU
 refine hU ?_
 refine ⟨trivial,(ad.aX m [(d,bN aT aG ((gg s (⟨name,[],to,4⟩:e3)).1)),(aG,aS ((gg s (⟨name,[],to,4⟩:e3)).1.now))]),fun _ _ h=>h,?_⟩
 show K (.err 115 ((gg s (⟨name,[],to,4⟩:e3)).2)) _
 have bp:dP s name to=(((gg s (⟨name,[],to,4⟩:e3)).1,(gg s (⟨name,[],to,4⟩:e3)).2):cz×Int):=by
  first|(rw [dP,if_pos (by assumption)];done)|(rw [dP,if_neg (by simp_all),if_pos (by simp_all)];done)|(rw [dP,if_neg (by simp_all),if_neg (by simp_all),if_pos (by assumption),←BD];done)|(rw [dP,if_neg (by simp_all),if_neg (by simp_all),if_neg (by assumption)];done)
 rw [bp] at U
 exact U
end Go.Proofs
end
section
namespace Go.Proofs
open Go Go.bh Go.bS
set_option maxRecDepth 100000
open Go.Shelf Go.RowKit Go.Sort Go.Lib in
set_option maxHeartbeats 6400000 in
set_option maxRecDepth 100000 in
theorem Tryz.Xc (u:Nat) (FK:u<18446744073709551616) (w:World) (rf:Lib.TabIs Tryz.prog w "internal/strconv.uint64pow10" .u64 Lib.pow10Tab):
 Calls Tryz.prog 158 #[.int .u64 u, .int .i64 10] w fun e w'=>e= .returned (.string ⟨(Lib.decDigits u).toArray⟩)∧∃k os,w'=grow (w.drewN k) os:=by
 have mixed:=Tryz.yD.mixed
 by_cases al:u<100
 · have FL:∀w,Calls Tryz.prog 200 #[.int .i64 u] w fun e w'=>e= .returned (.string ⟨(Lib.decDigits u).toArray⟩)∧w'=w:=fun w=>Any.internal_strconv_small {Tryz.yD with} u al w
   go_enter Tryz.func158,Tryz.ntmps158
   go_wp2_with (fail)
   refine (FL _).mono ?_
   rintro e w' ⟨rfl,rfl⟩
   go_wp2
   go_ret
   exact ⟨rfl,0,#[],by simp [World.drewN_zero]⟩
 · have LP:1≤u:=by omega
   have aaP:Lib.nDigits u≤20:=by have:=Lib.numDigits_eq u LP FK;split at this<;>omega
   have dI:Tryz.prog.arrayLen 263=24:=by simp [Program.arrayLen,Tryz.underlying263]
   have aaQ:∀W,(Instr.sliceAt 263 (.pointer (some ⟨w.heap.size,0,none⟩)) none (some (.int .i64 (Lib.nDigits u:Int))) none).run Tryz.prog W= .ok (.slice (some ⟨w.heap.size,0,none⟩) (Lib.nDigits u) 24) W:=fun W=>by
    rw [run_sliceAt_array_h W 263 ⟨w.heap.size,0,none⟩ (by simp [Program.arrayLen,Program.elem,Tryz.underlying263]) .i64 (Lib.nDigits u:Int) (by omega) (by rw [dI];omega)]
    go_simp
   have FM:=Lib.holds_zero0 w 263 (Lib.nDigits u) (by omega)
   have LQ:Calls Tryz.prog 202 #[.slice (some ⟨w.heap.size,0,none⟩) (Array.replicate (Lib.nDigits u) (0:UInt8)).size 24, .int .u64 u] (w.alloc (.cells Lib.zeros24 263)) _:=Any.internal_strconv_formatBase10 {Tryz.yD with} w.heap.size 0 24 u (Array.replicate (Lib.nDigits u) 0) (w.alloc (.cells Lib.zeros24 263)) FM (by rw [Array.size_replicate];exact Lib.lt_pow_nDigits u) FK (by rw [Array.size_replicate];omega)
   have Xd:∀w,Lib.TabIs Tryz.prog w "internal/strconv.uint64pow10" .u64 Lib.pow10Tab→Calls Tryz.prog 201 #[.int .u64 u] w fun e w'=>e= .returned (.int .i64 (Lib.nDigits u))∧w'=w:=fun w rf=>Any.internal_strconv_numDigits {Tryz.yD with} u LP FK w rf
   rw [Array.size_replicate] at LQ
   have Xe:=Lib.hid FM
   clear FM dI
   go_enter Tryz.func158,Tryz.ntmps158
   go_wp2_with (fail)
   refine (Xd _ (Lib.tabIs_alloc rf _)).mono ?_
   rintro e w' ⟨rfl,rfl⟩
   go_wp2_with (fail)
   refine LQ.mono ?_
   rintro e w' ⟨rfl,k,fX,gV,rfl,cE⟩
   have u2:(convert 110 9 (.slice (some ⟨w.heap.size,0,none⟩) (Lib.nDigits u) 24)).run Tryz.prog ((putRow (fun (b:UInt8)=>Value.int .u8 (b.toNat:Int)) (w.alloc (.cells Lib.zeros24 263)) w.heap.size 0 gV).drewN k)= .ok (.string ⟨(Lib.decDigits u).toArray⟩) ((putRow (fun (b:UInt8)=>Value.int .u8 (b.toNat:Int)) (w.alloc (.cells Lib.zeros24 263)) w.heap.size 0 gV).drewN k):=by
    have h:=run_convert_bytes_back (P:=Tryz.prog) ((putRow (fun (b:UInt8)=>Value.int .u8 (b.toNat:Int)) (w.alloc (.cells Lib.zeros24 263)) w.heap.size 0 gV).drewN k) 110 9 5 ⟨w.heap.size,0,none⟩ 24 (Lib.decDigits u) Tryz.underlying110 Tryz.underlying5 Tryz.underlying9 (fun j ay=>by
     rw [Lib.row_is_numeral cE j ay,Lib.add_plain,World.cell?_drewN]
     exact cell?_putRow (fun (b:UInt8)=>Value.int .u8 (b.toNat:Int)) _ w.heap.size 0 _ gV Xe.out (by rw [cE.size,Array.size_replicate]) j (by rw [cE.size];rw [Lib.decDigits_length] at ay;exact ay))
    rw [Lib.decDigits_length] at h
    exact h
   go_wp2
   go_ret
   obtain ⟨os,Xf⟩:=Lib.fin_at w (.cells Lib.zeros24 263) gV k 0
   exact ⟨rfl,k,os,Xf⟩
end Go.Proofs
end
section
namespace Go.Proofs
open Go Go.bh Go.bS
set_option maxRecDepth 100000
theorem Xg (s:ak) (c:UInt8) (m) (K:R→ad→Prop) (U:K (.int .i64 (Lib.indexByte s c)) m):bn Tryz.prog 226 [.str s, .str [c]] m K:=by
 refine EL ⟨_,Tryz.func226,rfl,by kernel_rfl⟩ U fun w lim cargs al au=>?_
 obtain ⟨a,b,rfl,rfl,ae,aH,_⟩:=EM al au
 obtain ⟨⟨b⟩⟩:=b
 subst ae
 exact ⟨_,Tryz.stringslite_Index_one a c w, .int .i64 _ (Int.le_trans (by decide) (Lib.indexByte_ge _ _)) (by have:=Bm a.data.toList c;have e:IntKind.i64.max=9223372036854775807:=rfl;have h:a.data.toList.length=a.size:=rfl;omega)⟩
theorem LR (s sub:List UInt8):∀k,-1≤Lib.lastOcc s sub k∧Lib.lastOcc s sub k<k:=by
 intro k
 rcases Lib.lastOcc_spec s sub k with ⟨e,_⟩|⟨i,ab,e,_⟩<;>omega
theorem Xh (s p:ak) (m) (K:R→ad→Prop) (U:K (.int .i64 (Lib.lastIndex s p)) m):bn Tryz.prog 106 [.str s, .str p] m K:=by
 refine EL ⟨_,Tryz.func106,rfl,by kernel_rfl⟩ U fun w lim cargs al au=>?_
 obtain ⟨a,b,rfl,rfl,rfl,aH,_⟩:=EM al au
 have h:-1≤Lib.lastIndex a.data.toList b.data.toList∧Lib.lastIndex a.data.toList b.data.toList≤a.data.toList.length:=by
  unfold Lib.lastIndex
  split
  · have:=LR a.data.toList b.data.toList (a.data.toList.length- b.data.toList.length+1);omega
  · omega
 have J:a.data.toList.length=a.size:=rfl
 exact ⟨_,Tryz.strings_LastIndex a b (by omega) w, .int .i64 _ (Int.le_trans (by decide) h.1) (by have e:IntKind.i64.max=9223372036854775807:=rfl;omega)⟩
theorem Xi (s p:ak) (m) (K:R→ad→Prop) (U:K (.str (Lib.trimSuffix s p)) m):bn Tryz.prog 108 [.str s, .str p] m K:=by
 refine EL ⟨_,Tryz.func108,rfl,by kernel_rfl⟩ U fun w lim cargs al au=>?_
 obtain ⟨a,b,rfl,rfl,rfl,aH,_⟩:=EM al au
 have:=Lib.trimSuffix_le a.data.toList b.data.toList
 have J:a.data.toList.length=a.size:=rfl
 exact ⟨_,Tryz.strings_TrimSuffix a b w (by omega), .str ⟨_⟩ (by show (Lib.trimSuffix a.data.toList b.data.toList).length≤_;omega)⟩
theorem LS (sep:ByteArray):∀(k:Nat) (s:ByteArray),∀p∈Lib.splitB sep 0 k s,p.size≤s.size
 |0,s,p,h=>by rw [Lib.splitB_zero] at h;simp at h;subst h;exact Nat.le_refl _
 |k+1,s,p,h=>by
  unfold Lib.splitB at h
  split at h
  · simp at h;subst h;exact Nat.le_refl _
  · rcases List.mem_cons.1 h with rfl|h
    · simp [ByteArray.size_extract];omega
    · have:=LS sep k _ p h;simp [ByteArray.size_extract] at this;omega
theorem LU (s:ak) (c:UInt8) (n:Int) (N:Nat) (al:s.length<4294967281) (yC:n≠0) (FB:n≤9223372036854775807) (cd:(N:Int)=min (if n<0 then (Lib.count s [c]:Int)+1 else n) ((s.length:Int)+1)) (m) (K:R→ad→Prop)
 (U:K (.slice false ((Lib.splitK [c] 0 (N- 1) s).map .str)) m):bn Tryz.prog 167 [.str s, .str [c], .int .i64 0, .int .i64 n] m K:=by
 refine Tf (e:=9) ⟨_,Tryz.func167,rfl,by kernel_rfl⟩ U fun w lim cargs aA au=>?_
 obtain ⟨a,rfl,rfl⟩:∃a:ByteArray,cargs=#[.string a, .string ⟨#[c]⟩, .int .i64 0, .int .i64 n]∧a.data.toList=s:=by
  have aq:aF w lim (cargs.getD 0 undef) (.str s) []:=au 0 (by simp)
  have I:aF w lim (cargs.getD 1 undef) (.str [c]) []:=au 1 (by simp)
  have J:aF w lim (cargs.getD 2 undef) (.int .i64 0) []:=au 2 (by simp)
  have ai:aF w lim (cargs.getD 3 undef) (.int .i64 n) []:=au 3 (by simp)
  have e:cargs=#[cargs.getD 0 undef,cargs.getD 1 undef,cargs.getD 2 undef,cargs.getD 3 undef]:=by
   apply Array.ext (by simpa using aA)
   intro i ab eH
   have:i=0∨i=1∨i=2∨i=3:=by simp at eH;omega
   rcases this with rfl|rfl|rfl|rfl<;>simp at aA<;>simp [Array.getD,aA]
  rw [e]
  generalize cargs.getD 0 undef=v0 at aq
  generalize cargs.getD 1 undef=v1 at I
  generalize cargs.getD 2 undef=v2 at J
  generalize cargs.getD 3 undef=v3 at ai
  cases J;cases ai
  generalize ah:[c]=x at I
  cases I
  cases aq
  rename_i b _ a _
  obtain ⟨⟨b⟩⟩:=b
  subst ah
  exact ⟨a,rfl,rfl⟩
 have J:a.data.toList.length=a.size:=rfl
 have aaR:N≤a.size+1:=by omega
 have aaS:1≤N:=by split at cd<;>omega
 have ar:=Lib.splitB_length_le ⟨#[c]⟩ 0 (N- 1) a
 refine ⟨_,N,Tryz.WS a c n N w (by omega) yC FB (by rw [cd];rfl),by omega,by have e:maxLen=9223372036854775807:=rfl;omega,by omega,fun p aB=>by have:=LS ⟨#[c]⟩ _ _ p aB;omega,?_⟩
 rw [Lib.splitB_data]
theorem LV {u:Nat} (h:u<18446744073709551616):(Lib.decDigits u).length≤20:=Be 19 u (Nat.lt_of_lt_of_le h (by decide))
theorem Xj (u:Nat) (hu:u<18446744073709551616) (m:ad) (aJ:cY m) (K:R→ad→Prop) (U:K (.str (Lib.decDigits u)) m):bn Tryz.prog 158 [.int .u64 u, .int .i64 10] m K:=
 have ⟨_,_,_,_,_,_,aJ,_⟩:=aJ
 Te ⟨_,Tryz.func158,rfl,by kernel_rfl⟩ Kr Tryz.Xc aJ (by have:=LV hu;omega) U
end Go.Proofs
end
section
namespace Go.Proofs
open Go Go.bh Go.bS
set_option maxRecDepth 100000
def l1 (s:ak) (c:UInt8):ak:=if 0≤Lib.indexByte s c then s.take (Lib.indexByte s c).toNat else s
def bU (s:ak) (c:UInt8):ak:=if 0≤Lib.indexByte s c then s.drop ((Lib.indexByte s c).toNat+1) else []
def mZ (c:UInt8) (s:ak):List ak:=Lib.splitK [c] 0 (Lib.count s [c]) s
def cD (c:UInt8) (n:Nat) (s:ak):List ak:=Lib.splitK [c] 0 (min n (s.length+1)- 1) s
theorem Xk (s:ak) (c:UInt8) (al:s.length<4294967281) (m) (K:R→ad→Prop) (U:K (.slice false ((mZ c s).map .str)) m):bn Tryz.prog 167 [.str s, .str [c], .int .i64 0, .int .i64 (-1)] m K:=
 LU s c (-1) (Lib.count s [c]+1) al (by decide) (by decide) (by rw [if_pos (by decide)];have:=Lib.count_one c s;have:=List.count_le_length (a:=c) (l:=s);omega) m K (by rw [Nat.add_sub_cancel];exact U)
theorem Xl (s:ak) (c:UInt8) (n:Nat) (al:s.length<4294967281) (I:1≤n) (J:n≤1000) (m) (K:R→ad→Prop) (U:K (.slice false ((cD c n s).map .str)) m):bn Tryz.prog 167 [.str s, .str [c], .int .i64 0, .int .i64 n] m K:=
 LU s c n (min n (s.length+1)) al (by omega) (by omega) (by rw [if_neg (by omega)];omega) m K U
theorem Xm (s:ak) (c:UInt8) (al:s.length<4294967281) (m:ad) (K:R→ad→Prop) (U:K (.tuple [.str (l1 s c), .str (bU s c), .bool (decide (0≤Lib.indexByte s c))]) m):bn Tryz.prog 209 [.str s, .str ([c])] m K:=by
 have aM:=Bm s c
 have cg:=Lib.indexByte_ge s c
 have sk:((([c]:ak).length:Nat):Int)=1:=rfl
 refine enter (c:=cP [] [] [] [] [] []) (vs:=[.aK (.str s), .aK (.str ([c]))]) (L:=[]) (m:=m) false cc Tryz.mixed Tryz.func209 rfl (k:=2) (by show cJ [] _ _ _=true;decide+kernel) rfl (Good.nil m) ?_
 refine aZ ?_
 refine ct (fun _=>Xg s c) rfl ?_
 refine an (fun I=>?_) (fun I=>?_)
 · refine an ⟨by (try dsimp only [Option.getD_some,Option.getD_none]);omega,by (try dsimp only [Option.getD_some,Option.getD_none]);omega,by (try dsimp only [Option.getD_some,Option.getD_none]);omega⟩ ?_
   refine an (by omega) ?_
   refine an ⟨by (try dsimp only [Option.getD_some,Option.getD_none]);omega,by (try dsimp only [Option.getD_some,Option.getD_none]);omega⟩ ?_
   refine bt rfl fun _=>?_
   show K (.tuple [.str (sub s 0 (Lib.indexByte s c)), .str (sub s ((Lib.indexByte s c)+(([c]).length:Int)) (s.length:Int)), .bool true]) m
   refine e9 U (?_:R.tuple [.str (l1 s c), .str (bU s c), .bool (decide (0≤Lib.indexByte s c))]=R.tuple [.str (sub s 0 (Lib.indexByte s c)), .str (sub s (Lib.indexByte s c+1) (s.length:Int)), .bool true])
   rw [l1,if_pos I,bU,if_pos I,decide_eq_true I,sub,sub]
   simp only [Int.toNat_zero,List.drop_zero,Int.sub_zero]
   rw [show (Lib.indexByte s c+1).toNat=(Lib.indexByte s c).toNat+1 by omega,List.take_of_length_le (l:=s.drop _) (by rw [List.length_drop];omega)]
 refine bt rfl fun _=>?_
 show K (.tuple [.str s, .str ([]), .bool false]) m
 rw [l1,if_neg (by omega),bU,if_neg (by omega),decide_eq_false (by omega)] at U
 exact U
theorem LW (s:ak) (c:UInt8) (al:s.length<4294967281) (m:ad) (K:R→ad→Prop) (U:K (.tuple [.str (l1 s c), .str (bU s c), .bool (decide (0≤Lib.indexByte s c))]) m):bn Tryz.prog 169 [.str s, .str ([c])] m K:=by
 refine enter (c:=cP [] [] [] [] [] []) (vs:=[.aK (.str s), .aK (.str ([c]))]) (L:=[]) (m:=m) false cc Tryz.mixed Tryz.func169 rfl (k:=2) (by show cJ [] _ _ _=true;decide+kernel) rfl (Good.nil m) ?_
 refine ct (fun _=>Xm s c al) rfl ?_
 exact bt rfl fun _=>U
theorem Xn (s:ak) (c:UInt8) (al:s.length<4294967281) (m:ad) (K:R→ad→Prop) (U:K (.slice false ((mZ c s).map cf)) m):bn Tryz.prog 107 [.str s, .str ([c])] m K:=by
 refine enter (c:=cP [] [] [] [] [] []) (vs:=[.aK (.str s), .aK (.str ([c]))]) (L:=[]) (m:=m) false cc Tryz.mixed Tryz.func107 rfl (k:=2) (by show cJ [] _ _ _=true;decide+kernel) rfl (Good.nil m) ?_
 refine ct (fun _=>Xk s c al) rfl ?_
 exact bt rfl fun _=>U
theorem LX (s:ak) (c:UInt8) (n:Nat) (al:s.length<4294967281) (I:1≤n) (J:n≤1000) (m:ad) (K:R→ad→Prop) (U:K (.slice false ((cD c n s).map cf)) m):bn Tryz.prog 172 [.str s, .str ([c]), .int .i64 (n:Int)] m K:=by
 refine enter (c:=cP [] [] [] [] [] []) (vs:=[.aK (.str s), .aK (.str ([c])), .aK (.int .i64 (n:Int))]) (L:=[]) (m:=m) false cc Tryz.mixed Tryz.func172 rfl (k:=3) (by show cJ [] _ _ _=true;decide+kernel) rfl (Good.nil m) ?_
 refine ct (fun _=>Xl s c n al I J) rfl ?_
 exact bt rfl fun _=>U
theorem Xo (u:Nat) (hu:u<18446744073709551616) (m:ad) (K:R→ad→Prop) (aJ:cY m) (U:K (.str (Lib.decDigits u)) m):bn Tryz.prog 88 [.int .u64 (u:Int), .int .i64 10] m K:=by
 refine enter (c:=cP [] [] [] [] [] []) (vs:=[.aK (.int .u64 (u:Int)), .aK (.int .i64 10)]) (L:=[]) (m:=m) false cc Tryz.mixed Tryz.func88 rfl (k:=2) (by show cJ [] _ _ _=true;decide+kernel) rfl (Good.nil m) ?_
 refine fQ [] [] (bf (Lib.decDigits u)) rfl (fun bs az gd ao=>fun K U=>Xj u hu az (cY.up ao aJ) K U) ?_
 exact bt rfl fun _=>U
end Go.Proofs
end
section
namespace Go.Proofs
open Go Go.bh Go.bS
set_option maxRecDepth 100000
structure gh where
 name:ak
 kind:ak
 id:Int
 attrs:aR
instance:Inhabited gh:=⟨⟨[],[],0,cK⟩⟩
structure jR where
 op:Int
 held:gh
 tok:ak
instance:Inhabited jR:=⟨⟨0,default,[]⟩⟩
structure dr where
 cZ:Int
 held:List gh
 ints:List jR
 outs:List (ak×aR)
instance:Inhabited dr:=⟨⟨0,[],[],[]⟩⟩
def ea (h:gh):R:= .agg [.str h.name, .str h.kind, .int .i64 h.id, .int .i64 h.attrs.kind, .int .i64 h.attrs.n, .str h.attrs.s, .slice false (h.attrs.l.map cm), .slice false (h.attrs.f.map bB)]
def fh (x:jR):R:= .agg [.int .i64 x.op, .str x.held.name, .str x.held.kind, .int .i64 x.held.id, .int .i64 x.held.attrs.kind, .int .i64 x.held.attrs.n, .str x.held.attrs.s, .slice false (x.held.attrs.l.map cm), .slice false (x.held.attrs.f.map bB), .str x.tok]
def gR (s:dr):R:= .agg [.int .i64 s.cZ, .slice false (s.held.map ea), .slice false (s.ints.map fh), .slice false (s.outs.map bB)]
def fy (h:gh):Int:=if ((b1 h.name=false∨b1 h.kind=false)∨h.id<0)∨h.attrs.kind≠5 then 3 else bF h.attrs
def pe (c:UInt8):Bool:=(decide (97≤(c.toNat:Int))&&decide ((c.toNat:Int)≤122))||(decide (48≤(c.toNat:Int))&&decide ((c.toNat:Int)≤57))||((c.toNat:Int)==46)
def kh (s:ak):Bool:=s.all pe&&!(s==[])&&decide ((s.length:Int)≤36)
def nQ (l:List gh):Nat→Int→Int
 |0,_=>0
 |n+1,i=>if fy (aa l i)≠0 then fy (aa l i) else if (0<i∧Op.bytesLess (aa l (i- 1)).name (aa l i).name=false)∨(aa l i).id=0 then 3 else nQ l n (i+1)
def kK (x:jR):Int:=if fy x.held≠0 then fy x.held else if (x.op<1∨3<x.op)∨kh x.tok=false then 3 else 0
def pf:List jR→Int
 |[]=>0
 |x::r=>if kK x=0 then pf r else kK x
def nR (l:List (ak×aR)):Nat→Int→Int
 |0,_=>0
 |n+1,i=>if b1 (aa l i).1=false∨(0<i∧Op.bytesLess (aa l (i- 1)).1 (aa l i).1=false) then 3 else if bF (aa l i).2≠0 then bF (aa l i).2 else nR l n (i+1)
def qA (s:dr) (b:Int):Int:=if b≠0 then b else nR s.outs s.outs.length 0
def rA (s:dr) (a:Int):Int:=if a≠0 then a else qA s (pf s.ints)
def cp (s:dr):Int:=if s.cZ<0∨1000000000<s.cZ then 1 else if (16<(s.held.length:Int)∨8<(s.ints.length:Int))∨8<(s.outs.length:Int) then 2 else rA s (nQ s.held s.held.length 0)
theorem BE {s:dr} {a:Int} (h:a≠0):rA s a=a:=by rw [rA,if_pos h]
theorem BF {s:dr} {a:Int} (h:a≠0):qA s a=a:=by rw [qA,if_pos h]
theorem wu {l:List gh} {i:Int} (ab:i<l.length):nQ l ((l.length:Int)- i).toNat i=if fy (aa l i)≠0 then fy (aa l i) else if (0<i∧Op.bytesLess (aa l (i- 1)).name (aa l i).name=false)∨(aa l i).id=0 then 3 else nQ l ((l.length:Int)- (i+1)).toNat (i+1):=by
 rw [show ((l.length:Int)- i).toNat=((l.length:Int)- (i+1)).toNat+1 by omega,nQ]
theorem LY {l:List gh} {i:Int} (ab:(l.length:Int)≤i):nQ l ((l.length:Int)- i).toNat i=0:=by
 rw [show ((l.length:Int)- i).toNat=0 by omega,nQ]
theorem wv {l:List (ak×aR)} {i:Int} (ab:i<l.length):nR l ((l.length:Int)- i).toNat i=if b1 (aa l i).1=false∨(0<i∧Op.bytesLess (aa l (i- 1)).1 (aa l i).1=false) then 3 else if bF (aa l i).2≠0 then bF (aa l i).2 else nR l ((l.length:Int)- (i+1)).toNat (i+1):=by
 rw [show ((l.length:Int)- i).toNat=((l.length:Int)- (i+1)).toNat+1 by omega,nR]
theorem LZ {l:List (ak×aR)} {i:Int} (ab:(l.length:Int)≤i):nR l ((l.length:Int)- i).toNat i=0:=by
 rw [show ((l.length:Int)- i).toNat=0 by omega,nR]
theorem wx {l:List jR} {i:Int} (aq:0≤i) (ab:i<l.length):pf (l.drop i.toNat)=if kK (aa l i)=0 then pf (l.drop (i+1).toNat) else kK (aa l i):=by rw [lQ aq ab,pf]
theorem L0 {s:ak} {i:Int} {p:UInt8→Bool} (aq:0≤i) (ab:i<s.length):(s.take (i+1).toNat).all p=((s.take i.toNat).all p&&p (aa s i)):=by
 rw [lP aq ab];simp
theorem L1 (s:dr) (h:¬(s.cZ<0∨1000000000<s.cZ)) (J:¬((16<(s.held.length:Int)∨8<(s.ints.length:Int))∨8<(s.outs.length:Int))):cp s=rA s (nQ s.held ((s.held.length:Int)- 0).toNat 0):=by
 rw [cp,if_neg h,if_neg J];congr 2
theorem L2 (s:dr):rA s 0=qA s (pf (s.ints.drop (0:Int).toNat)):=rfl
theorem L3 (s:dr):qA s 0=nR s.outs ((s.outs.length:Int)- 0).toNat 0:=by rw [qA,if_neg (by decide)];congr 1
set_option maxHeartbeats 2000000 in
theorem yZ (s:ak) (m:ad) (K:R→ad→Prop) (U:K (.bool (b1 s)) m):bn Tryz.prog 77 [.str s] m K:=by
 refine enter (c:=cP [] [0] [5,8] [] [] []) (vs:=[.aK (.str s)]) (L:=[]) (m:=m) false cc Tryz.mixed Tryz.func77 rfl (k:=1) (by show cJ [] _ _ _=true;decide+kernel) rfl (Good.nil m) ?_
 refine ⟨fun c6=>?_⟩
 have yJ:s.length≤140737488355328:=c6 0
 refine aZ ?_
 refine ev (σ:=Int) [] [0,6,7] 0 (fun i=>([(0,bf s),(6,aw (s.length:Int)),(7,aw i)],[],m)) (fun i=>0≤i∧i≤s.length∧kE s true=kE (s.drop i.toNat) (i==0)) (fun i=>s.length- i.toNat) (0) ⟨rfl,rfl⟩ ?_ ?_
 · try dsimp only
   exact ⟨by omega,by omega,by simp⟩
 rintro i aM
 refine aZ ?_
 refine an (fun I=>?_) (fun I=>?_)
 · refine aZ ?_
   refine an (by omega) ?_
   refine cx [0,6,7] 30 (((decide (((aa s i).toNat:Int)<97))||(decide (122<((aa s i).toNat:Int))))&&(((i==0)||(decide (((aa s i).toNat:Int)<48)))||(decide (57<((aa s i).toNat:Int))))) ?_ ?_
   · repeat' first
      |exact ⟨⟨_,rfl,by grind [bM.val]⟩,rfl⟩
      |refine an (fun _=>?_) (fun _=>?_)
   refine an (fun J=>?_) (fun J=>?_)
   · replace J:((((aa s i).toNat:Int)<97)∨(122<((aa s i).toNat:Int)))∧(((i=0)∨(((aa s i).toNat:Int)<48))∨(57<((aa s i).toNat:Int))):=⟨((da (e4 J)).imp (fun q=>(of_decide_eq_true q)) (fun q=>(of_decide_eq_true q))),((da (fY J)).imp (fun q=>((da q).imp (fun q=>(eq_of_beq q)) (fun q=>(of_decide_eq_true q)))) (fun q=>(of_decide_eq_true q)))⟩
     refine bt rfl fun _=>e9 U ?_
     show R.bool (b1 s)=R.bool false
     refine congrArg R.bool ?_
     have ae:(lR (aa s i)||(!(i==0)&&lS (aa s i)))=false:=by
      rw [Bool.eq_false_iff];intro ba;simp [lR,lS] at ba;omega
     rw [b1,aM.2.2,vO aM.1 I,ae];rfl
   replace J:((97≤((aa s i).toNat:Int))∧(((aa s i).toNat:Int)≤122))∨(((i≠0)∧(48≤((aa s i).toNat:Int)))∧(((aa s i).toNat:Int)≤57)):=((fZ J).imp (fun q=>⟨(Int.not_lt.1 (of_decide_eq_false (bZ q))),(Int.not_lt.1 (of_decide_eq_false (c8 q)))⟩) (fun q=>⟨⟨(ne_of_beq_false (bZ (bZ q))),(Int.not_lt.1 (of_decide_eq_false (c8 (bZ q))))⟩,(Int.not_lt.1 (of_decide_eq_false (c8 q)))⟩))
   refine an (by omega) ?_
   refine ⟨(i+1),⟨rfl,rfl⟩,?_,?_⟩
   · try dsimp only
     have ae:(lR (aa s i)||(!(i==0)&&lS (aa s i)))=true:=by simp [lR,lS];omega
     exact ⟨by omega,by omega,by rw [aM.2.2,vO aM.1 I,ae];rfl⟩
   try dsimp only
   omega
 refine cx [] 2 ((!(s==([])))&&(decide ((s.length:Int)≤12))) ?_ ?_
 · repeat' first
    |exact ⟨⟨_,rfl,by grind [bM.val]⟩,rfl⟩
    |refine an (fun _=>?_) (fun _=>?_)
 refine bt rfl fun _=>e9 U ?_
 show R.bool (b1 s)=R.bool ((!(s==([])))&&(decide ((s.length:Int)≤12)))
 refine congrArg R.bool ?_
 have aH:kE s true=true:=by rw [aM.2.2,List.drop_eq_nil_of_le (by omega)];rfl
 rw [b1,aH];cases s<;>simp
set_option maxHeartbeats 1000000 in
theorem L4 (h:gh) (m:ad) (K:R→ad→Prop) (U:K (.err 115 (fy h)) m):bn Tryz.prog 90 [ea h] m K:=by
 refine enter (c:=cP [] [] [1] [] [] []) (vs:=[.aK (ea h)]) (L:=[]) (m:=m) true cc Tryz.mixed Tryz.func90 rfl (k:=1) (by show cJ [] _ _ _=true;decide+kernel) rfl (Good.nil m) ?_
 refine aZ ?_
 refine cx [1] 23 ((((!(b1 h.name))||(!(b1 h.kind)))||(decide (h.id<0)))||(!(h.attrs.kind==5))) ?_ ?_
 · repeat' first
    |exact ⟨⟨_,rfl,by grind [bM.val]⟩,rfl⟩
    |refine an (fun _=>?_) (fun _=>?_)
    |refine ct (fun _=>yZ h.name) rfl ?_
    |refine ct (fun _=>yZ h.kind) rfl ?_
 refine an (fun I=>?_) (fun I=>?_)
 · replace I:(((b1 h.name=false)∨(b1 h.kind=false))∨(h.id<0))∨(h.attrs.kind≠5):=((da I).imp (fun q=>((da q).imp (fun q=>((da q).imp (fun q=>(dD q)) (fun q=>(dD q)))) (fun q=>(of_decide_eq_true q)))) (fun q=>(ne_of_beq_false (dD q))))
   have bp:fy h=(3:Int):=by
    first|(rw [fy,if_pos (by simp_all)];done)|(rw [fy,if_neg (by simp_all)];done)
   rw [bp] at U
   exact bt rfl fun _=>U
 replace I:(((b1 h.name=true)∧(b1 h.kind=true))∧(0≤h.id))∧(h.attrs.kind=5):=⟨⟨⟨(dC (bZ (bZ (bZ I)))),(dC (c8 (bZ (bZ I))))⟩,(Int.not_lt.1 (of_decide_eq_false (c8 (bZ I))))⟩,(eq_of_beq (dC (c8 I)))⟩
 refine ct (fun _=>yG h.attrs) rfl ?_
 have bp:fy h=(bF h.attrs:Int):=by
  first|(rw [fy,if_pos (by simp_all)];done)|(rw [fy,if_neg (by simp_all)];done)
 rw [bp] at U
 exact bt rfl fun _=>U
set_option maxHeartbeats 1000000 in
theorem L5 (h:gh) (aY:bq h.attrs≤1000000000000) (m:ad) (K:R→ad→Prop) (U:K (.int .i64 (fy h)) m):bn Tryz.prog 85 [ea h] m K:=by
 refine enter (c:=cP [] [] [3] [] [] []) (vs:=[.aK (ea h)]) (L:=[]) (m:=m) false cc Tryz.mixed Tryz.func85 rfl (k:=1) (by show cJ [] _ _ _=true;decide+kernel) rfl (Good.nil m) ?_
 refine ct (fun _=>vS h.name) rfl ?_
 refine ct (fun _=>vS h.kind) rfl ?_
 refine aZ ?_
 refine cx [1] 27 ((((!(b1 h.name))||(!(b1 h.kind)))||(decide (h.id<0)))||(!(h.attrs.kind==5))) ?_ ?_
 · repeat' first
    |exact ⟨⟨_,rfl,by grind [bM.val]⟩,rfl⟩
    |refine an (fun _=>?_) (fun _=>?_)
 refine an (fun I=>?_) (fun I=>?_)
 · replace I:(((b1 h.name=false)∨(b1 h.kind=false))∨(h.id<0))∨(h.attrs.kind≠5):=((da I).imp (fun q=>((da q).imp (fun q=>((da q).imp (fun q=>(dD q)) (fun q=>(dD q)))) (fun q=>(of_decide_eq_true q)))) (fun q=>(ne_of_beq_false (dD q))))
   have bp:fy h=(3:Int):=by
    first|(rw [fy,if_pos (by simp_all)];done)|(rw [fy,if_neg (by simp_all)];done)
   rw [bp] at U
   exact bt rfl fun _=>U
 replace I:(((b1 h.name=true)∧(b1 h.kind=true))∧(0≤h.id))∧(h.attrs.kind=5):=⟨⟨⟨(dC (bZ (bZ (bZ I)))),(dC (c8 (bZ (bZ I))))⟩,(Int.not_lt.1 (of_decide_eq_false (c8 (bZ I))))⟩,(eq_of_beq (dC (c8 I)))⟩
 refine ct (fun _=>Kg h.attrs (by omega)) rfl ?_
 have bp:fy h=(bF h.attrs:Int):=by
  first|(rw [fy,if_pos (by simp_all)];done)|(rw [fy,if_neg (by simp_all)];done)
 rw [bp] at U
 exact bt rfl fun _=>U
set_option maxHeartbeats 2000000 in
theorem Xp (s:ak) (m:ad) (K:R→ad→Prop) (U:K (.bool (kh s)) m):bn Tryz.prog 91 [.str s] m K:=by
 refine enter (c:=cP [] [0] [4,7] [] [] []) (vs:=[.aK (.str s)]) (L:=[]) (m:=m) false cc Tryz.mixed Tryz.func91 rfl (k:=1) (by show cJ [] _ _ _=true;decide+kernel) rfl (Good.nil m) ?_
 refine ⟨fun c6=>?_⟩
 have yJ:s.length≤140737488355328:=c6 0
 refine aZ ?_
 refine ev (σ:=Int) [] [0,5,6] 0 (fun i=>([(0,bf s),(5,aw (s.length:Int)),(6,aw i)],[],m)) (fun i=>0≤i∧i≤s.length∧(s.take i.toNat).all pe=true) (fun i=>s.length- i.toNat) (0) ⟨rfl,rfl⟩ ?_ ?_
 · try dsimp only
   exact ⟨by omega,by omega,by simp⟩
 rintro i aM
 refine aZ ?_
 refine an (fun I=>?_) (fun I=>?_)
 · refine aZ ?_
   refine cx [0,5,6] 36 ((((decide (((aa s i).toNat:Int)<97))||(decide (122<((aa s i).toNat:Int))))&&((decide (((aa s i).toNat:Int)<48))||(decide (57<((aa s i).toNat:Int)))))&&(!(((aa s i).toNat:Int)==46))) ?_ ?_
   · repeat' first
      |exact ⟨⟨_,rfl,by grind [bM.val]⟩,rfl⟩
      |refine an (fun _=>?_) (fun _=>?_)
      |refine an (by omega) ?_
   refine an (fun J=>?_) (fun J=>?_)
   · replace J:(((((aa s i).toNat:Int)<97)∨(122<((aa s i).toNat:Int)))∧((((aa s i).toNat:Int)<48)∨(57<((aa s i).toNat:Int))))∧(((aa s i).toNat:Int)≠46):=⟨⟨((da (e4 (e4 J))).imp (fun q=>(of_decide_eq_true q)) (fun q=>(of_decide_eq_true q))),((da (fY (e4 J))).imp (fun q=>(of_decide_eq_true q)) (fun q=>(of_decide_eq_true q)))⟩,(ne_of_beq_false (dD (fY J)))⟩
     refine bt rfl fun _=>e9 U ?_
     show R.bool (kh s)=R.bool false
     refine congrArg R.bool ?_
     have ae:pe (aa s i)=false:=by
      rw [Bool.eq_false_iff];intro ba;simp [pe] at ba;omega
     have aH:s.all pe=false:=by
      rw [Bool.eq_false_iff];intro ba
      have:=List.all_eq_true.1 ba _ (ch aM.1 I)
      rw [ae] at this;cases this
     rw [kh,aH];rfl
   replace J:(((97≤((aa s i).toNat:Int))∧(((aa s i).toNat:Int)≤122))∨((48≤((aa s i).toNat:Int))∧(((aa s i).toNat:Int)≤57)))∨(((aa s i).toNat:Int)=46):=((fZ J).imp (fun q=>((fZ q).imp (fun q=>⟨(Int.not_lt.1 (of_decide_eq_false (bZ q))),(Int.not_lt.1 (of_decide_eq_false (c8 q)))⟩) (fun q=>⟨(Int.not_lt.1 (of_decide_eq_false (bZ q))),(Int.not_lt.1 (of_decide_eq_false (c8 q)))⟩))) (fun q=>(eq_of_beq (dC q))))
   refine an (by omega) ?_
   refine ⟨(i+1),⟨rfl,rfl⟩,?_,?_⟩
   · try dsimp only
     have ae:pe (aa s i)=true:=by simp [pe];omega
     exact ⟨by omega,by omega,by rw [L0 aM.1 I,aM.2.2,ae];rfl⟩
   try dsimp only
   omega
 refine cx [] 2 ((!(s==([])))&&(decide ((s.length:Int)≤36))) ?_ ?_
 · repeat' first
    |exact ⟨⟨_,rfl,by grind [bM.val]⟩,rfl⟩
    |refine an (fun _=>?_) (fun _=>?_)
 refine bt rfl fun _=>e9 U ?_
 show R.bool (kh s)=R.bool ((!(s==([])))&&(decide ((s.length:Int)≤36)))
 refine congrArg R.bool ?_
 have aH:s.all pe=true:=by have:=aM.2.2;rwa [jM (by omega)] at this
 rw [kh,aH];rfl
end Go.Proofs
end
section
namespace Go.Proofs
open Go Go.bh Go.bS
set_option maxRecDepth 100000
theorem L6 {i:Int} {b:Bool} {n:Int} (h:(i≤0∨b=true)∧n≠0):¬((0<i∧b=false)∨n=0):=by
 rintro (⟨q,r⟩|q)
 · rcases h.1 with s|s
   · omega
   · rw [s] at r;cases r
 · exact h.2 q
theorem BG {i:Int} {b c:Bool} (h:c=true∧(i≤0∨b=true)):¬(c=false∨(0<i∧b=false)):=by
 rintro (q|⟨q,r⟩)
 · rw [h.1] at q;cases q
 · rcases h.2 with s|s
   · omega
   · rw [s] at r;cases r
theorem L7 {n:Int} {b:Bool} (h:(1≤n∧n≤3)∧b=true):¬((n<1∨3<n)∨b=false):=by
 rintro (q|q)
 · omega
 · rw [h.2] at q;cases q
theorem BH {a b:ak}:Op.bytesLess a b=true↔a<b:=by
 induction a generalizing b with
 |nil=>cases b with
  |nil=>simp [Op.bytesLess]
  |cons y b=>simp [Op.bytesLess]
 |cons x a aQ=>cases b with
  |nil=>simp [Op.bytesLess]
  |cons y b=>
   rw [Op.bytesLess,List.cons_lt_cons_iff]
   simp [aQ]
theorem Xq {a b:ak} (h:Op.bytesLess a b=false):¬a<b:=fun ba=>by rw [BH.2 ba] at h;cases h
theorem Xr (a:ak):¬a<a:=List.lt_irrefl a
theorem Xs {a b:ak} (I:¬a<b) (J:a≠b):b<a:=by
 rcases Classical.em (b<a) with h|h
 · exact h
 · exact absurd (List.le_antisymm (show a≤b from h) (show b≤a from I)) J
theorem L8 {a b:ak} (h:Op.bytesLess a b=true∨a=b):Op.bytesLess b a=false:=by
 rw [Bool.eq_false_iff,Ne,BH]
 intro q
 rcases h with h|h
 · exact List.lt_irrefl a (List.lt_trans (BH.1 h) q)
 · exact Xr a (by rw [h] at q ⊢;exact q)
theorem FN {a b:ak} (h:Op.bytesLess a b=false∧a≠b):Op.bytesLess b a=true:=BH.2 (Xs (Xq h.1) h.2)
theorem L9 (s:ak):(decide (0<(s.length:Int))&&decide ((s.length:Int)≤36)&&s.all pe)=kh s:=by
 cases s with
 |nil=>rfl
 |cons c r=>
  rw [kh]
  have:decide (0<(((c::r).length:Nat):Int))=true:=by simp
  have e:((c::r)==([]:ak))=false:=rfl
  rw [this,e,Bool.true_and,Bool.not_false,Bool.and_true,Bool.and_comm]
set_option maxHeartbeats 4000000 in
theorem Ma (s:dr) (m:ad) (K:R→ad→Prop) (U:K (.err 115 (cp s)) m):bn Tryz.prog 38 [gR s] m K:=by
 refine enter (c:=cP [] [] [1,3,11,20,26] [] [] []) (vs:=[.aK (gR s)]) (L:=[]) (m:=m) true cc Tryz.mixed Tryz.func38 rfl (k:=1) (by show cJ [] _ _ _=true;decide+kernel) rfl (Good.nil m) ?_
 refine aZ ?_
 refine cx [1] 19 ((decide (s.cZ<0))||(decide (1000000000<s.cZ))) ?_ ?_
 · repeat' first
    |exact ⟨⟨_,rfl,by grind [bM.val]⟩,rfl⟩
    |refine an (fun _=>?_) (fun _=>?_)
 refine an (fun I=>?_) (fun I=>?_)
 · replace I:(s.cZ<0)∨(1000000000<s.cZ):=((da I).imp (fun q=>(of_decide_eq_true q)) (fun q=>(of_decide_eq_true q)))
   have bp:cp s=(1:Int):=by
    rw [cp,if_pos I]
   rw [bp] at U
   exact bt rfl fun _=>U
 replace I:(0≤s.cZ)∧(s.cZ≤1000000000):=⟨(Int.not_lt.1 (of_decide_eq_false (bZ I))),(Int.not_lt.1 (of_decide_eq_false (c8 I)))⟩
 refine aZ ?_
 refine cx [1] 36 (((decide (16<(s.held.length:Int)))||(decide (8<(s.ints.length:Int))))||(decide (8<(s.outs.length:Int)))) ?_ ?_
 · repeat' first
    |exact ⟨⟨_,rfl,by grind [bM.val]⟩,rfl⟩
    |refine an (fun _=>?_) (fun _=>?_)
    |refine dq ?_
 refine an (fun J=>?_) (fun J=>?_)
 · replace J:((16<(s.held.length:Int))∨(8<(s.ints.length:Int)))∨(8<(s.outs.length:Int)):=((da J).imp (fun q=>((da q).imp (fun q=>(of_decide_eq_true q)) (fun q=>(of_decide_eq_true q)))) (fun q=>(of_decide_eq_true q)))
   have bp:cp s=(2:Int):=by
    rw [cp,if_neg (by omega),if_pos J]
   rw [bp] at U
   exact bt rfl fun _=>U
 replace J:(((s.held.length:Int)≤16)∧((s.ints.length:Int)≤8))∧((s.outs.length:Int)≤8):=⟨⟨(Int.not_lt.1 (of_decide_eq_false (bZ (bZ J)))),(Int.not_lt.1 (of_decide_eq_false (c8 (bZ J))))⟩,(Int.not_lt.1 (of_decide_eq_false (c8 J)))⟩
 refine aZ ?_
 refine dq ?_
 refine ev (σ:=Int) [] [1,39,40,41] 1 (fun i=>([(1, .loc 0 0),(39,bj (s.held.map ea)),(40,aw (s.held.length:Int)),(41,aw i)],[.cells [aw s.cZ,bj (s.held.map ea),bj (s.ints.map fh),bj (s.outs.map bB)]],m)) (fun i=>0≤i∧i≤s.held.length∧cp s=rA s (nQ s.held ((s.held.length:Int)- i).toNat i)) (fun i=>s.held.length- i.toNat) (0) ⟨rfl,rfl⟩ ?_ ?_
 · try dsimp only
   exact ⟨by omega,by omega,L1 s (by omega) (by omega)⟩
 rintro i aM
 refine aZ ?_
 refine an (fun ai=>?_) (fun ai=>?_)
 · refine aZ ?_
   refine fP (by omega) ?_
   refine ct (fun _=>L4 (aa s.held i)) rfl ?_
   refine aZ ?_
   refine an (fun aC=>?_) (fun aC=>?_)
   · refine cx [1,39,40,41] 69 (((decide (0<i))&&(!(Op.bytesLess ((aa s.held (i- 1)).name) ((aa s.held i).name))))||(((aa s.held i).id)==0)) ?_ ?_
     · repeat' first
        |exact ⟨⟨_,rfl,by grind [bM.val]⟩,rfl⟩
        |refine an (fun _=>?_) (fun _=>?_)
        |refine an (by omega) ?_
        |refine fP (by omega) ?_
     refine an (fun aN=>?_) (fun aN=>?_)
     · replace aN:((0<i)∧(Op.bytesLess ((aa s.held (i- 1)).name) ((aa s.held i).name)=false))∨((aa s.held i).id=0):=((da aN).imp (fun q=>⟨(of_decide_eq_true (e4 q)),(dD (fY q))⟩) (fun q=>(eq_of_beq q)))
       have bp:cp s=(3:Int):=by
        rw [aM.2.2,wu ai,if_neg (fun q=>q aC),if_pos aN,BE (by decide)]
       rw [bp] at U
       exact bt rfl fun _=>U
     replace aN:((i≤0)∨(Op.bytesLess ((aa s.held (i- 1)).name) ((aa s.held i).name)=true))∧((aa s.held i).id≠0):=⟨((fZ (bZ aN)).imp (fun q=>(Int.not_lt.1 (of_decide_eq_false q))) (fun q=>(dC q))),(ne_of_beq_false (c8 aN))⟩
     refine an (by omega) ?_
     refine ⟨(i+1),⟨rfl,rfl⟩,?_,?_⟩
     · try dsimp only
       exact ⟨by omega,by omega,by rw [aM.2.2,wu ai,if_neg (fun q=>q aC),if_neg (L6 aN)]⟩
     try dsimp only
     omega
   have bp:cp s=(fy (aa s.held i):Int):=by
    rw [aM.2.2,wu ai,if_pos aC,BE aC]
   rw [bp] at U
   exact bt rfl fun _=>U
 refine aZ ?_
 refine dq ?_
 refine ev (σ:=Int) [] [1,73,74,75] 1 (fun i2=>([(1, .loc 0 0),(73,bj (s.ints.map fh)),(74,aw (s.ints.length:Int)),(75,aw i2)],[.cells [aw s.cZ,bj (s.held.map ea),bj (s.ints.map fh),bj (s.outs.map bB)]],m)) (fun i2=>0≤i2∧i2≤s.ints.length∧cp s=qA s (pf (s.ints.drop i2.toNat))) (fun i2=>s.ints.length- i2.toNat) (0) ⟨rfl,rfl⟩ ?_ ?_
 · try dsimp only
   exact ⟨by omega,by omega,by rw [aM.2.2,LY (by omega)];exact L2 s⟩
 rintro i2 cg
 refine aZ ?_
 refine an (fun bE=>?_) (fun bE=>?_)
 · refine aZ ?_
   refine fP (by omega) ?_
   refine ct (fun _=>L4 ((aa s.ints i2).held)) rfl ?_
   refine aZ ?_
   refine an (fun dk=>?_) (fun dk=>?_)
   · refine cx [1,73,74,75] 98 (((decide ((aa s.ints i2).op<1))||(decide (3<(aa s.ints i2).op)))||(!(kh ((aa s.ints i2).tok)))) ?_ ?_
     · repeat' first
        |exact ⟨⟨_,rfl,by grind [bM.val]⟩,rfl⟩
        |refine an (fun _=>?_) (fun _=>?_)
        |refine ct (fun _=>Xp ((aa s.ints i2).tok)) rfl ?_
     refine an (fun cW=>?_) (fun cW=>?_)
     · replace cW:(((aa s.ints i2).op<1)∨(3<(aa s.ints i2).op))∨(kh ((aa s.ints i2).tok)=false):=((da cW).imp (fun q=>((da q).imp (fun q=>(of_decide_eq_true q)) (fun q=>(of_decide_eq_true q)))) (fun q=>(dD q)))
       have bp:cp s=(3:Int):=by
        have q:kK (aa s.ints i2)=3:=by rw [kK,if_neg (fun q=>q dk),if_pos cW]
        rw [cg.2.2,wx cg.1 bE,if_neg (by rw [q];decide),q,BF (by decide)]
       rw [bp] at U
       exact bt rfl fun _=>U
     replace cW:((1≤(aa s.ints i2).op)∧((aa s.ints i2).op≤3))∧(kh ((aa s.ints i2).tok)=true):=⟨⟨(Int.not_lt.1 (of_decide_eq_false (bZ (bZ cW)))),(Int.not_lt.1 (of_decide_eq_false (c8 (bZ cW))))⟩,(dC (c8 cW))⟩
     refine an (by omega) ?_
     refine ⟨(i2+1),⟨rfl,rfl⟩,?_,?_⟩
     · try dsimp only
       have q:kK (aa s.ints i2)=0:=by rw [kK,if_neg (fun q=>q dk),if_neg (L7 cW)]
       exact ⟨by omega,by omega,by rw [cg.2.2,wx cg.1 bE,if_pos q]⟩
     try dsimp only
     omega
   have bp:cp s=(fy ((aa s.ints i2).held):Int):=by
    have q:kK (aa s.ints i2)=fy (aa s.ints i2).held:=by rw [kK,if_pos dk]
    rw [cg.2.2,wx cg.1 bE,if_neg (by rw [q];exact dk),q,BF dk]
   rw [bp] at U
   exact bt rfl fun _=>U
 refine aZ ?_
 refine dq ?_
 refine ev (σ:=Int) [] [1,102,103,104] 1 (fun i3=>([(1, .loc 0 0),(102,bj (s.outs.map bB)),(103,aw (s.outs.length:Int)),(104,aw i3)],[.cells [aw s.cZ,bj (s.held.map ea),bj (s.ints.map fh),bj (s.outs.map bB)]],m)) (fun i3=>0≤i3∧i3≤s.outs.length∧cp s=nR s.outs ((s.outs.length:Int)- i3).toNat i3) (fun i3=>s.outs.length- i3.toNat) (0) ⟨rfl,rfl⟩ ?_ ?_
 · try dsimp only
   exact ⟨by omega,by omega,by rw [cg.2.2,List.drop_eq_nil_of_le (by omega)];exact L3 s⟩
 rintro i3 jz
 refine aZ ?_
 refine an (fun dB=>?_) (fun dB=>?_)
 · refine aZ ?_
   refine e0 gA fI (by omega) ?_
   refine aZ ?_
   refine cx [1,10,102,103,104] 128 ((!(b1 ((aa s.outs i3).1)))||((decide (0<i3))&&(!(Op.bytesLess ((aa s.outs (i3- 1)).1) ((aa s.outs i3).1))))) ?_ ?_
   · repeat' first
      |exact ⟨⟨_,rfl,by grind [bM.val]⟩,rfl⟩
      |refine an (fun _=>?_) (fun _=>?_)
      |refine hx (fun _=>yZ ((aa s.outs i3).1)) ?_
      |refine an (by omega) ?_
      |refine e0 gA fI (by omega) ?_
   refine an (fun dV=>?_) (fun dV=>?_)
   · replace dV:(b1 ((aa s.outs i3).1)=false)∨((0<i3)∧(Op.bytesLess ((aa s.outs (i3- 1)).1) ((aa s.outs i3).1)=false)):=((da dV).imp (fun q=>(dD q)) (fun q=>⟨(of_decide_eq_true (e4 q)),(dD (fY q))⟩))
     have bp:cp s=(3:Int):=by
      rw [jz.2.2,wv dB,if_pos dV]
     rw [bp] at U
     exact bt rfl fun _=>U
   replace dV:(b1 ((aa s.outs i3).1)=true)∧((i3≤0)∨(Op.bytesLess ((aa s.outs (i3- 1)).1) ((aa s.outs i3).1)=true)):=⟨(dC (bZ dV)),((fZ (c8 dV)).imp (fun q=>(Int.not_lt.1 (of_decide_eq_false q))) (fun q=>(dC q)))⟩
   refine ct (fun _=>yG ((aa s.outs i3).2)) rfl ?_
   refine an (fun fj=>?_) (fun fj=>?_)
   · refine an (by omega) ?_
     refine ⟨(i3+1),⟨rfl,rfl⟩,?_,?_⟩
     · try dsimp only
       exact ⟨by omega,by omega,by rw [jz.2.2,wv dB,if_neg (BG dV),if_neg (fun q=>q fj)]⟩
     try dsimp only
     omega
   have bp:cp s=(bF ((aa s.outs i3).2):Int):=by
    rw [jz.2.2,wv dB,if_neg (BG dV),if_pos fj]
   rw [bp] at U
   exact bt rfl fun _=>U
 have bp:cp s=(0:Int):=by
  rw [jz.2.2,LZ (by omega)]
 rw [bp] at U
 exact bt rfl fun _=>U
theorem FO (v:aR):0≤bF v:=by
 unfold bF mq
 split
 · split<;>decide
 · decide
theorem wy (h:gh):0≤fy h:=by
 rw [fy];split
 · decide
 · exact FO _
set_option maxHeartbeats 4000000 in
theorem Xt (s:dr) (gD:∀h∈s.held,bq h.attrs≤1000000000000) (Mb:∀x∈s.ints,bq x.held.attrs≤1000000000000) (Xu:∀p∈s.outs,bq p.2≤1000000000000) (wz:∀x∈s.ints,x.tok.length≤140737488355328) (m:ad) (K:R→ad→Prop) (U:K (.int .i64 (cp s)) m):bn Tryz.prog 36 [gR s] m K:=by
 refine enter (c:=cP [] [] [1,3,11,20,24,25,31] [] [] []) (vs:=[.aK (gR s)]) (L:=[]) (m:=m) false cc Tryz.mixed Tryz.func36 rfl (k:=1) (by show cJ [] _ _ _=true;decide+kernel) rfl (Good.nil m) ?_
 refine aZ ?_
 refine cx [1] 20 ((decide (s.cZ<0))||(decide (1000000000<s.cZ))) ?_ ?_
 · repeat' first
    |exact ⟨⟨_,rfl,by grind [bM.val]⟩,rfl⟩
    |refine an (fun _=>?_) (fun _=>?_)
 refine an (fun I=>?_) (fun I=>?_)
 · replace I:(s.cZ<0)∨(1000000000<s.cZ):=((da I).imp (fun q=>(of_decide_eq_true q)) (fun q=>(of_decide_eq_true q)))
   have bp:cp s=(1:Int):=by
    rw [cp,if_pos I]
   rw [bp] at U
   exact bt rfl fun _=>U
 replace I:(0≤s.cZ)∧(s.cZ≤1000000000):=⟨(Int.not_lt.1 (of_decide_eq_false (bZ I))),(Int.not_lt.1 (of_decide_eq_false (c8 I)))⟩
 refine aZ ?_
 refine cx [1] 36 (((decide (16<(s.held.length:Int)))||(decide (8<(s.ints.length:Int))))||(decide (8<(s.outs.length:Int)))) ?_ ?_
 · repeat' first
    |exact ⟨⟨_,rfl,by grind [bM.val]⟩,rfl⟩
    |refine an (fun _=>?_) (fun _=>?_)
    |refine dq ?_
 refine an (fun J=>?_) (fun J=>?_)
 · replace J:((16<(s.held.length:Int))∨(8<(s.ints.length:Int)))∨(8<(s.outs.length:Int)):=((da J).imp (fun q=>((da q).imp (fun q=>(of_decide_eq_true q)) (fun q=>(of_decide_eq_true q)))) (fun q=>(of_decide_eq_true q)))
   have bp:cp s=(2:Int):=by
    rw [cp,if_neg (by omega),if_pos J]
   rw [bp] at U
   exact bt rfl fun _=>U
 replace J:(((s.held.length:Int)≤16)∧((s.ints.length:Int)≤8))∧((s.outs.length:Int)≤8):=⟨⟨(Int.not_lt.1 (of_decide_eq_false (bZ (bZ J)))),(Int.not_lt.1 (of_decide_eq_false (c8 (bZ J))))⟩,(Int.not_lt.1 (of_decide_eq_false (c8 J)))⟩
 refine aZ ?_
 refine ev (σ:=Int) [] [1,3] 1 (fun i=>([(1, .loc 0 0),(3,aw i)],[.cells [aw s.cZ,bj (s.held.map ea),bj (s.ints.map fh),bj (s.outs.map bB)]],m)) (fun i=>0≤i∧i≤s.held.length∧cp s=rA s (nQ s.held ((s.held.length:Int)- i).toNat i)) (fun i=>s.held.length- i.toNat) (0) ⟨rfl,rfl⟩ ?_ ?_
 · try dsimp only
   exact ⟨by omega,by omega,L1 s (by omega) (by omega)⟩
 rintro i aM
 refine aZ ?_
 refine dq ?_
 refine an (fun ai=>?_) (fun ai=>?_)
 · refine aZ ?_
   refine aZ ?_
   refine fP (by omega) ?_
   refine ct (fun _=>L5 (aa s.held i) (by first|exact gD _ (ch (by omega) (by omega))|exact Mb _ (ch (by omega) (by omega)))) rfl ?_
   refine an (fun aC=>?_) (fun aC=>?_)
   · have bp:cp s=(fy (aa s.held i):Int):=by
      rw [aM.2.2,wu ai,if_pos (by omega),BE (by omega)]
     rw [bp] at U
     exact bt rfl fun _=>U
   refine cx [1,3] 79 ((((aa s.held i).id)==0)||((decide (0<i))&&((Op.bytesLess ((aa s.held i).name) ((aa s.held (i- 1)).name))||(((aa s.held i).name)==((aa s.held (i- 1)).name))))) ?_ ?_
   · repeat' first
      |exact ⟨⟨_,rfl,by grind [bM.val]⟩,rfl⟩
      |refine an (fun _=>?_) (fun _=>?_)
      |refine fP (by omega) ?_
      |refine an (by (first|omega|(have:=wz _ (ch cg.1 bE);omega))) ?_
   refine an (fun aN=>?_) (fun aN=>?_)
   · replace aN:((aa s.held i).id=0)∨((0<i)∧((Op.bytesLess ((aa s.held i).name) ((aa s.held (i- 1)).name)=true)∨((aa s.held i).name=(aa s.held (i- 1)).name))):=((da aN).imp (fun q=>(eq_of_beq q)) (fun q=>⟨(of_decide_eq_true (e4 q)),((da (fY q)).imp (fun q=>q) (fun q=>(eq_of_beq q)))⟩))
     have bp:cp s=(3:Int):=by
      rw [aM.2.2,wu ai,if_neg (fun q=>q (by have:=wy (aa s.held i);omega)),if_pos (aN.symm.imp (fun q=>⟨q.1,L8 q.2⟩) id),BE (by decide)]
     rw [bp] at U
     exact bt rfl fun _=>U
   replace aN:((aa s.held i).id≠0)∧((i≤0)∨((Op.bytesLess ((aa s.held i).name) ((aa s.held (i- 1)).name)=false)∧((aa s.held i).name≠(aa s.held (i- 1)).name))):=⟨(ne_of_beq_false (bZ aN)),((fZ (c8 aN)).imp (fun q=>(Int.not_lt.1 (of_decide_eq_false q))) (fun q=>⟨(bZ q),(ne_of_beq_false (c8 q))⟩))⟩
   refine an (by (first|omega|(have:=wz _ (ch cg.1 bE);omega))) ?_
   refine ⟨(i+1),⟨rfl,rfl⟩,?_,?_⟩
   · try dsimp only
     exact ⟨by omega,by omega,by rw [aM.2.2,wu ai,if_neg (fun q=>q (by have:=wy (aa s.held i);omega)),if_neg (L6 ⟨aN.2.imp id FN,aN.1⟩)]⟩
   try dsimp only
   omega
 refine aZ ?_
 refine ev (σ:=Int) [] [1,5] 1 (fun i2=>([(1, .loc 0 0),(5,aw i2)],[.cells [aw s.cZ,bj (s.held.map ea),bj (s.ints.map fh),bj (s.outs.map bB)]],m)) (fun i2=>0≤i2∧i2≤s.ints.length∧cp s=qA s (pf (s.ints.drop i2.toNat))) (fun i2=>s.ints.length- i2.toNat) (0) ⟨rfl,rfl⟩ ?_ ?_
 · try dsimp only
   exact ⟨by omega,by omega,by rw [aM.2.2,LY (by omega)];exact L2 s⟩
 rintro i2 cg
 refine aZ ?_
 refine dq ?_
 refine an (fun bE=>?_) (fun bE=>?_)
 · refine aZ ?_
   refine aZ ?_
   refine fP (by omega) ?_
   refine ct (fun _=>L5 ((aa s.ints i2).held) (by first|exact gD _ (ch (by omega) (by omega))|exact Mb _ (ch (by omega) (by omega)))) rfl ?_
   refine an (fun dk=>?_) (fun dk=>?_)
   · have bp:cp s=(fy ((aa s.ints i2).held):Int):=by
      have q:kK (aa s.ints i2)=fy (aa s.ints i2).held:=by rw [kK,if_pos (by omega)]
      rw [cg.2.2,wx cg.1 bE,if_neg (by rw [q];omega),q,BF (by omega)]
     rw [bp] at U
     exact bt rfl fun _=>U
   refine fP (by omega) ?_
   refine cx [1,5,7] 8 ((decide (0<(((aa s.ints i2).tok).length:Int)))&&(decide ((((aa s.ints i2).tok).length:Int)≤36))) ?_ ?_
   · repeat' first
      |exact ⟨⟨_,rfl,by grind [bM.val]⟩,rfl⟩
      |refine an (fun _=>?_) (fun _=>?_)
   refine aZ ?_
   refine ev (σ:=Bool×Int) [(8,0)] [1,5,7,8,9] 1 (fun ⟨ok,k⟩=>([(1, .loc 0 0),(5,aw i2),(7,bf ((aa s.ints i2).tok)),(8,e6 ok),(9,aw k)],[.cells [aw s.cZ,bj (s.held.map ea),bj (s.ints.map fh),bj (s.outs.map bB)]],m)) (fun ⟨ok,k⟩=>0≤k∧k≤(aa s.ints i2).tok.length∧ok=(decide (0<((aa s.ints i2).tok.length:Int))&&decide (((aa s.ints i2).tok.length:Int)≤36)&&((aa s.ints i2).tok.take k.toNat).all pe)) (fun ⟨ok,k⟩=>(aa s.ints i2).tok.length- k.toNat) (((decide (0<(((aa s.ints i2).tok).length:Int)))&&(decide ((((aa s.ints i2).tok).length:Int)≤36))),0) ⟨rfl,rfl⟩ ?_ ?_
   · try dsimp only
     exact ⟨by omega,by omega,by simp⟩
   rintro ⟨ok,k⟩ jz
   dsimp only at jz
   refine aZ ?_
   refine an (fun cW=>?_) (fun cW=>?_)
   · refine aZ ?_
     refine cx [1,5,7,9] 8 (ok&&((((decide (97≤((aa ((aa s.ints i2).tok) k).toNat:Int)))&&(decide (((aa ((aa s.ints i2).tok) k).toNat:Int)≤122)))||((decide (48≤((aa ((aa s.ints i2).tok) k).toNat:Int)))&&(decide (((aa ((aa s.ints i2).tok) k).toNat:Int)≤57))))||(((aa ((aa s.ints i2).tok) k).toNat:Int)==46))) ?_ ?_
     · repeat' first
        |exact ⟨⟨_,rfl,by grind [bM.val]⟩,rfl⟩
        |refine an (fun _=>?_) (fun _=>?_)
        |refine an (by omega) ?_
     refine an (by (first|omega|(have:=wz _ (ch cg.1 bE);omega))) ?_
     refine ⟨((ok&&((((decide (97≤((aa ((aa s.ints i2).tok) k).toNat:Int)))&&(decide (((aa ((aa s.ints i2).tok) k).toNat:Int)≤122)))||((decide (48≤((aa ((aa s.ints i2).tok) k).toNat:Int)))&&(decide (((aa ((aa s.ints i2).tok) k).toNat:Int)≤57))))||(((aa ((aa s.ints i2).tok) k).toNat:Int)==46))),k+1),⟨rfl,rfl⟩,?_,?_⟩
     · try dsimp only
       exact ⟨by omega,by omega,by rw [jz.2.2,L0 jz.1 cW,pe,←Bool.and_assoc]⟩
     try dsimp only
     omega
   refine cx [1,5] 167 (((!ok)||(decide ((aa s.ints i2).op<1)))||(decide (3<(aa s.ints i2).op))) ?_ ?_
   · repeat' first
      |exact ⟨⟨_,rfl,by grind [bM.val]⟩,rfl⟩
      |refine an (fun _=>?_) (fun _=>?_)
      |refine fP (by omega) ?_
   refine an (fun dB=>?_) (fun dB=>?_)
   · replace dB:((ok=false)∨((aa s.ints i2).op<1))∨(3<(aa s.ints i2).op):=((da dB).imp (fun q=>((da q).imp (fun q=>(dD q)) (fun q=>(of_decide_eq_true q)))) (fun q=>(of_decide_eq_true q)))
     have bp:cp s=(3:Int):=by
      have cO:ok=kh (aa s.ints i2).tok:=by
       rw [←L9,jz.2.2,jM (by omega)]
      have q:kK (aa s.ints i2)=3:=by rw [kK,if_neg (fun q=>q (by have:=wy (aa s.ints i2).held;omega)),if_pos (by rcases dB with (h|h)|h;(· right;rw [←cO];exact h);(· exact .inl (.inl h));(· exact .inl (.inr h)))]
      rw [cg.2.2,wx cg.1 bE,if_neg (by rw [q];decide),q,BF (by decide)]
     rw [bp] at U
     exact bt rfl fun _=>U
   replace dB:((ok=true)∧(1≤(aa s.ints i2).op))∧((aa s.ints i2).op≤3):=⟨⟨(dC (bZ (bZ dB))),(Int.not_lt.1 (of_decide_eq_false (c8 (bZ dB))))⟩,(Int.not_lt.1 (of_decide_eq_false (c8 dB)))⟩
   refine an (by (first|omega|(have:=wz _ (ch cg.1 bE);omega))) ?_
   refine ⟨(i2+1),⟨rfl,rfl⟩,?_,?_⟩
   · try dsimp only
     have cO:ok=kh (aa s.ints i2).tok:=by
      rw [←L9,jz.2.2,jM (by omega)]
     have q:kK (aa s.ints i2)=0:=by rw [kK,if_neg (fun q=>q (by have:=wy (aa s.ints i2).held;omega)),if_neg (L7 ⟨⟨dB.1.2,dB.2⟩,by rw [←cO];exact dB.1.1⟩)]
     exact ⟨by omega,by omega,by rw [cg.2.2,wx cg.1 bE,if_pos q]⟩
   try dsimp only
   omega
 refine aZ ?_
 refine ev (σ:=Int) [] [1,10] 1 (fun i3=>([(1, .loc 0 0),(10,aw i3)],[.cells [aw s.cZ,bj (s.held.map ea),bj (s.ints.map fh),bj (s.outs.map bB)]],m)) (fun i3=>0≤i3∧i3≤s.outs.length∧cp s=nR s.outs ((s.outs.length:Int)- i3).toNat i3) (fun i3=>s.outs.length- i3.toNat) (0) ⟨rfl,rfl⟩ ?_ ?_
 · try dsimp only
   exact ⟨by omega,by omega,by rw [cg.2.2,List.drop_eq_nil_of_le (by omega)];exact L3 s⟩
 rintro i3 jz
 refine aZ ?_
 refine dq ?_
 refine an (fun dV=>?_) (fun dV=>?_)
 · refine aZ ?_
   refine e0 gA fI (by omega) ?_
   refine ct (fun _=>vS ((aa s.outs i3).1)) rfl ?_
   refine aZ ?_
   refine cx [1,10] 203 ((!(b1 ((aa s.outs i3).1)))||((decide (0<i3))&&((Op.bytesLess ((aa s.outs i3).1) ((aa s.outs (i3- 1)).1))||(((aa s.outs i3).1)==((aa s.outs (i3- 1)).1))))) ?_ ?_
   · repeat' first
      |exact ⟨⟨_,rfl,by grind [bM.val]⟩,rfl⟩
      |refine an (fun _=>?_) (fun _=>?_)
      |refine e0 gA fI (by omega) ?_
      |refine an (by (first|omega|(have:=wz _ (ch cg.1 bE);omega))) ?_
   refine an (fun fj=>?_) (fun fj=>?_)
   · replace fj:(b1 ((aa s.outs i3).1)=false)∨((0<i3)∧((Op.bytesLess ((aa s.outs i3).1) ((aa s.outs (i3- 1)).1)=true)∨((aa s.outs i3).1=(aa s.outs (i3- 1)).1))):=((da fj).imp (fun q=>(dD q)) (fun q=>⟨(of_decide_eq_true (e4 q)),((da (fY q)).imp (fun q=>q) (fun q=>(eq_of_beq q)))⟩))
     have bp:cp s=(3:Int):=by
      rw [jz.2.2,wv dV,if_pos (fj.imp id (fun q=>⟨q.1,L8 q.2⟩))]
     rw [bp] at U
     exact bt rfl fun _=>U
   replace fj:(b1 ((aa s.outs i3).1)=true)∧((i3≤0)∨((Op.bytesLess ((aa s.outs i3).1) ((aa s.outs (i3- 1)).1)=false)∧((aa s.outs i3).1≠(aa s.outs (i3- 1)).1))):=⟨(dC (bZ fj)),((fZ (c8 fj)).imp (fun q=>(Int.not_lt.1 (of_decide_eq_false q))) (fun q=>⟨(bZ q),(ne_of_beq_false (c8 q))⟩))⟩
   refine e0 gA fI (by omega) ?_
   refine ct (fun _=>Kg ((aa s.outs i3).2) (Xu _ (ch (by omega) (by omega)))) rfl ?_
   refine an (fun rm=>?_) (fun rm=>?_)
   · have bp:cp s=(bF ((aa s.outs i3).2):Int):=by
      rw [jz.2.2,wv dV,if_neg (BG ⟨fj.1,fj.2.imp id FN⟩),if_pos (by omega)]
     rw [bp] at U
     exact bt rfl fun _=>U
   refine an (by (first|omega|(have:=wz _ (ch cg.1 bE);omega))) ?_
   refine ⟨(i3+1),⟨rfl,rfl⟩,?_,?_⟩
   · try dsimp only
     exact ⟨by omega,by omega,by rw [jz.2.2,wv dV,if_neg (BG ⟨fj.1,fj.2.imp id FN⟩),if_neg (fun q=>q (by have:=FO (aa s.outs i3).2;omega))]⟩
   try dsimp only
   omega
 have bp:cp s=(0:Int):=by
  rw [jz.2.2,LZ (by omega)]
 rw [bp] at U
 exact bt rfl fun _=>U
end Go.Proofs
end
section
namespace Go.Proofs
open Go Go.bh Go.bS
set_option maxRecDepth 100000
def gS {α:Type} (f:α→ak):List α→ak
 |[]=>[]
 |x::r=>f x++gS f r
theorem wA {α:Type} [Inhabited α] (f:α→ak) {l:List α} {i:Int} (aq:0≤i) (ab:i<l.length):gS f (l.drop i.toNat)=f (aa l i)++gS f (l.drop (i+1).toNat):=by rw [lQ aq ab,gS]
theorem wB {α:Type} (f:α→ak) {l:List α} {i:Int} (ab:(l.length:Int)≤i):gS f (l.drop i.toNat)=[]:=by rw [List.drop_eq_nil_of_le (by omega),gS]
theorem BI {α:Type} {f:α→ak} {c:Nat}:∀l:List α,(∀x∈l,(f x).length≤c)→(gS f l).length≤l.length*c
 |[],_=>by rw [gS];simp
 |x::r,h=>by
  have I:=h x (List.mem_cons_self ..)
  have J:=BI r fun y aE=>h y (List.mem_cons_of_mem _ aE)
  rw [gS,List.length_append,List.length_cons,Nat.add_mul];omega
attribute [irreducible] gS
def fT (h:gh):ak:=h.kind++[32]++h.name++[32]++Lib.itoa h.id++[32]++eJ h.attrs
def mz (h:gh):ak:=[104,101,108,100,32]++fT h++[10]
def lz (x:jR):ak:=[105,110,116,101,110,116,32]++Lib.itoa x.op++[32]++x.tok++[32]++fT x.held++[10]
def kL (p:ak×aR):ak:=[111,117,116,32]++p.1++[32]++eJ p.2++[10]
def hB (s:dr):ak:=[115,101,114,105,97,108,32]++Lib.itoa s.cZ++[10]++gS mz s.held++gS lz s.ints++gS kL s.outs
def dy (s:dr):ak:=hB s++[115,117,109,32]++Lib.itoa (jt (hB s))++[10]
structure Xv (h:gh):Prop where
 n:b1 h.name=true
 k:b1 h.kind=true
 z:0≤h.id
 a:h.attrs.kind=5
 c:bF h.attrs=0
theorem y0 {h:gh} (e:fy h=0):Xv h:=by
 rw [fy] at e
 split at e
 · cases e
 · rename_i q
   simp only [not_or,Bool.not_eq_false,Int.not_lt,Ne,Classical.not_not] at q
   exact ⟨q.1.1.1,q.1.1.2,q.1.2,q.2,e⟩
structure BJ (s:dr):Prop where
 s1:0≤s.cZ
 s2:s.cZ≤1000000000
 FP:s.held.length≤16
 li:s.ints.length≤8
 bD:s.outs.length≤8
 h:∀x∈s.held,fy x=0∧x.id≠0
 i:∀x∈s.ints,fy x.held=0∧1≤x.op∧x.op≤3∧kh x.tok=true
 o:∀p∈s.outs,b1 p.1=true∧bF p.2=0
theorem Mc {l:List gh}:∀(n:Nat) (i:Int),0≤i→nQ l n i=0→∀j:Int,i≤j→j<i+n→fy (aa l j)=0∧(aa l j).id≠0
 |0,i,_,_,j,I,J=>by omega
 |n+1,i,aq,h,j,I,J=>by
  rw [nQ] at h
  split at h
  · rename_i c;exact absurd h c
  · rename_i c
    split at h
    · cases h
    · rename_i c2
      rcases Int.lt_or_le i j with q|q
      · exact Mc n (i+1) (by omega) h j (by omega) (by omega)
      · rw [show j=i by omega];exact ⟨Classical.not_not.1 c,fun e=>c2 (.inr e)⟩
theorem Md {l:List (ak×aR)}:∀(n:Nat) (i:Int),0≤i→nR l n i=0→∀j:Int,i≤j→j<i+n→b1 (aa l j).1=true∧bF (aa l j).2=0
 |0,i,_,_,j,I,J=>by omega
 |n+1,i,aq,h,j,I,J=>by
  rw [nR] at h
  split at h
  · cases h
  · rename_i c
    split at h
    · rename_i c2;exact absurd h c2
    · rename_i c2
      rcases Int.lt_or_le i j with q|q
      · exact Md n (i+1) (by omega) h j (by omega) (by omega)
      · rw [show j=i by omega];exact ⟨by simpa using fun e=>c (.inl e),Classical.not_not.1 c2⟩
theorem Me:∀{l:List jR},pf l=0→∀x∈l,kK x=0
 |[],_,x,ah=>by cases ah
 |y::r,h,x,ah=>by
  rw [pf] at h
  split at h
  · rename_i c
    rcases List.mem_cons.1 ah with rfl|ah
    · exact c
    · exact Me h x ah
  · rename_i c;exact absurd h c
theorem Xw {x:jR} (h:kK x=0):fy x.held=0∧1≤x.op∧x.op≤3∧kh x.tok=true:=by
 rw [kK] at h
 split at h
 · rename_i c;exact absurd h c
 · rename_i c
   split at h
   · cases h
   · rename_i c2
     simp only [not_or,Int.not_lt,Bool.not_eq_false] at c2
     exact ⟨Classical.not_not.1 c,c2.1.1,c2.1.2,c2.2⟩
theorem FQ {α:Type} [Inhabited α] {l:List α} {x:α} (h:x∈l):∃k:Int,0≤k∧k<l.length∧aa l k=x:=by
 obtain ⟨k,aj,rfl⟩:=List.getElem_of_mem h
 exact ⟨k,by omega,by omega,by simp [aa,List.getD_eq_getElem?_getD,aj]⟩
theorem FR {s:dr} (h:cp s=0):BJ s:=by
 unfold cp at h
 split at h
 · cases h
 · rename_i fH
   split at h
   · cases h
   · rename_i c2
     unfold rA at h
     split at h
     · rename_i c;exact absurd h c
     · rename_i c3
       unfold qA at h
       split at h
       · rename_i c;exact absurd h c
       · rename_i c4
         refine ⟨by omega,by omega,by omega,by omega,by omega,fun x ah=>?_,fun x ah=>Xw (Me (Classical.not_not.1 c4) x ah),fun x ah=>?_⟩
         · obtain ⟨k,aq,aj,rfl⟩:=FQ ah
           exact Mc _ 0 (Int.le_refl _) (Classical.not_not.1 c3) k aq (by omega)
         · obtain ⟨k,aq,aj,rfl⟩:=FQ ah
           exact Md _ 0 (Int.le_refl _) h k aq (by omega)
theorem wC {h:gh} (e:fy h=0) (ae:h.id≤9223372036854775807):(fT h).length≤12100:=by
 have q:=y0 e
 have I:=pb q.n;have J:=pb q.k;have ai:=rn q.c;have aC:=nF (n:=h.id) (by have:=q.z;omega) ae
 simp only [fT,List.length_append,List.length_cons,List.length_nil];omega
theorem FT {s:ak} (h:kh s=true):s.length≤36:=by
 simp only [kh,Bool.and_eq_true,decide_eq_true_eq] at h;omega
theorem Mf {s:dr} (q:BJ s) (ae:∀h∈s.held,h.id≤9223372036854775807) (jK:∀x∈s.ints,x.held.id≤9223372036854775807):(hB s).length≤500000:=by
 have I:=BI (f:=mz) (c:=13000) s.held fun x ah=>by
  have:=wC (q.h x ah).1 (ae x ah)
  simp only [mz,List.length_append,List.length_cons,List.length_nil];omega
 have J:=BI (f:=lz) (c:=13000) s.ints fun x ah=>by
  have g:=q.i x ah
  have:=wC g.1 (jK x ah);have:=nF (n:=x.op) (by omega) (by omega);have:=FT g.2.2.2
  simp only [lz,List.length_append,List.length_cons,List.length_nil];omega
 have ai:=BI (f:=kL) (c:=13000) s.outs fun x ah=>by
  have g:=q.o x ah
  have:=rn g.2;have:=pb g.1
  simp only [kL,List.length_append,List.length_cons,List.length_nil];omega
 have g1:s.held.length*13000≤16*13000:=Nat.mul_le_mul_right _ q.FP
 have g2:s.ints.length*13000≤8*13000:=Nat.mul_le_mul_right _ q.li
 have g3:s.outs.length*13000≤8*13000:=Nat.mul_le_mul_right _ q.bD
 have g4:=q.s1;have g5:=q.s2
 have:=nF (n:=s.cZ) (by omega) (by omega)
 simp only [hB,List.length_append,List.length_cons,List.length_nil];omega
end Go.Proofs
end
section
namespace Go.Proofs
open Go Go.bh Go.bS
set_option maxRecDepth 100000
theorem Mg (n:Int) (aq:0≤n) (I:n≤18446744073709551615) (m:ad) (aJ:cY m) (K:R→ad→Prop) (U:K (.str (Lib.itoa n)) m):bn Tryz.prog 88 [.int .u64 n, .int .i64 10] m K:=by
 obtain ⟨u,rfl⟩:=Int.eq_ofNat_of_zero_le aq
 exact Xo u (by omega) m K aJ (by rw [Lib.itoa,if_neg (by omega)] at U;exact U)
theorem FU {x:Int} (aq:0≤x) (I:x≤18446744073709551615):IntKind.u64.wrap x=x:=by simp [IntKind.wrap,IntKind.bits,IntKind.signed];omega
theorem na (s:ak):0≤jt s∧jt s≤18446744073709551615:=by
 have hw:∀a:Int,0≤IntKind.u64.wrap a∧IntKind.u64.wrap a≤18446744073709551615:=fun a=>by simp [IntKind.wrap,IntKind.bits,IntKind.signed];omega
 have g:∀(l:ak) (x:Int),0≤x∧x≤18446744073709551615→0≤l.foldl sE x∧l.foldl sE x≤18446744073709551615:=fun l=>by
  induction l with
  |nil=>exact fun x h=>h
  |cons c r aQ=>exact fun x _=>aQ _ (hw _)
 exact g s _ (by decide)
set_option maxHeartbeats 1000000 in
theorem Mh (h:gh) (aA:fy h=0) (ab:h.id≤9223372036854775807) (m:ad) (K:R→ad→Prop) (aJ:cY m) (U:K (.str (fT h)) m):bn Tryz.prog 87 [ea h] m K:=by
 have q:=y0 aA
 have oG:=q.c
 have rB:=rn oG
 have sD:=rB
 unfold eJ at sD
 have Xx:=pb q.n
 have KO:=pb q.k
 have Xy:=q.z
 have Xz:=nF (n:=h.id) (by omega) ab
 refine enter (c:=cP [] [] [] [] [] []) (vs:=[.aK (ea h)]) (L:=[]) (m:=m) false cc Tryz.mixed Tryz.func87 rfl (k:=1) (by show cJ [] _ _ _=true;decide+kernel) rfl (Good.nil m) ?_
 refine fQ [] [] (.aK (.tuple [.str (eJ h.attrs), .err 115 0])) rfl (fun bs az gd ao=>fun K U=>Lt h.attrs oG az K (cY.up ao aJ) U) ?_
 refine an (by first|omega|(simp only [List.length_append,List.length_cons,List.length_nil];omega)) ?_
 refine an (by first|omega|(simp only [List.length_append,List.length_cons,List.length_nil];omega)) ?_
 refine an (by first|omega|(simp only [List.length_append,List.length_cons,List.length_nil];omega)) ?_
 refine A4 (x:= .str (Lib.itoa h.id)) (fun bs az ao=>fun K U=>Bg h.id (by omega) (by omega) az (cY.up ao aJ) K U) ?_
 refine an (by first|omega|(simp only [List.length_append,List.length_cons,List.length_nil];omega)) ?_
 refine an (by first|omega|(simp only [List.length_append,List.length_cons,List.length_nil];omega)) ?_
 refine an (by first|omega|(simp only [List.length_append,List.length_cons,List.length_nil];omega)) ?_
 refine bt rfl fun _=>?_
 show K (.str ((((((h.kind++([32]:List UInt8))++h.name)++([32]:List UInt8))++(Lib.itoa h.id))++([32]:List UInt8))++(eJ h.attrs))) m
 rw [fT] at U
 exact U
set_option maxHeartbeats 1000000 in
theorem Mi (h:gh) (aA:fy h=0) (ab:h.id≤9223372036854775807) (m:ad) (K:R→ad→Prop) (U:K (.str (fT h)) m):bn Tryz.prog 94 [ea h] m K:=by
 have q:=y0 aA
 have oG:=q.c
 have rB:=rn oG
 have sD:=rB
 unfold eJ at sD
 have Xx:=pb q.n
 have KO:=pb q.k
 have Xy:=q.z
 have Xz:=nF (n:=h.id) (by omega) ab
 refine enter (c:=cP [] [] [] [] [] []) (vs:=[.aK (ea h)]) (L:=[]) (m:=m) false cc Tryz.mixed Tryz.func94 rfl (k:=1) (by show cJ [] _ _ _=true;decide+kernel) rfl (Good.nil m) ?_
 refine an (by first|omega|(simp only [List.length_append,List.length_cons,List.length_nil];omega)) ?_
 refine an (by first|omega|(simp only [List.length_append,List.length_cons,List.length_nil];omega)) ?_
 refine an (by first|omega|(simp only [List.length_append,List.length_cons,List.length_nil];omega)) ?_
 refine hx (fun _=>Bf h.id (by omega) (by omega)) ?_
 refine an (by first|omega|(simp only [List.length_append,List.length_cons,List.length_nil];omega)) ?_
 refine an (by first|omega|(simp only [List.length_append,List.length_cons,List.length_nil];omega)) ?_
 refine hx (fun _=>Fb (bq h.attrs+1) h.attrs (Nat.lt_succ_self _) (om oG).1 (by have:=rn oG;unfold eJ at this;omega)) ?_
 refine an (by first|omega|(simp only [List.length_append,List.length_cons,List.length_nil];omega)) ?_
 refine bt rfl fun _=>?_
 show K (.str ((((((h.kind++([32]:List UInt8))++h.name)++([32]:List UInt8))++(Lib.itoa h.id))++([32]:List UInt8))++(eJ h.attrs))) m
 rw [fT] at U
 exact U
set_option maxHeartbeats 1000000 in
theorem XA (n:Int) (km:0≤n) (nh:n≤18446744073709551615) (aQ:∀q:Int,q.toNat<n.toNat→0≤q→q≤18446744073709551615→∀(m:ad) (K:R→ad→Prop),K (.str (Lib.itoa q)) m→bn Tryz.prog 95 [.int .u64 q] m K) (m:ad) (K:R→ad→Prop) (U:K (.str (Lib.itoa n)) m):bn Tryz.prog 95 [.int .u64 n] m K:=by
 have aY:Int.tdiv n 10=n/10:=Int.tdiv_eq_ediv_of_nonneg km
 have au:Int.tmod n 10=n%10:=Int.tmod_eq_emod_of_nonneg km
 have hw:IntKind.u64.wrap (Int.tdiv n 10)=n/10:=by rw [aY];exact FU (by omega) (by omega)
 have ar:(Lib.itoa (IntKind.u64.wrap (Int.tdiv n 10))).length≤20:=by
  rw [hw];exact nF (by omega) (by omega)
 refine enter (c:=cP [] [] [] [] [] []) (vs:=[.aK (.int .u64 n)]) (L:=[]) (m:=m) false cc Tryz.mixed Tryz.func95 rfl (k:=1) (by show cJ [] _ _ _=true;decide+kernel) rfl (Good.nil m) ?_
 refine aZ ?_
 refine an (fun I=>?_) (fun I=>?_)
 · refine pP (xs:=([(jk (IntKind.u64.wrap (48+n)))]:List UInt8)) ?_
   refine bt rfl fun _=>?_
   show K (.str ([(jk (IntKind.u64.wrap (48+n)))]:List UInt8)) m
   rw [E4 km I] at U
   rw [FU (by omega) (by omega)]
   exact U
 refine an (by omega) ?_
 refine hx (fun _=>aQ (IntKind.u64.wrap (Int.tdiv n 10)) (by simp only [hw];omega) (by simp only [hw];omega) (by simp only [hw];omega)) ?_
 refine an (by exact ⟨by omega,by show (0:Int)≤_;omega,by show _≤(18446744073709551615:Int);omega⟩) ?_
 refine pP (xs:=([(jk (IntKind.u64.wrap (48+(Int.tmod n 10))))]:List UInt8)) ?_
 refine an (by (first|omega|(simp only [List.length_append,List.length_cons,List.length_nil];omega))) ?_
 refine bt rfl fun _=>?_
 show K (.str ((Lib.itoa (IntKind.u64.wrap (Int.tdiv n 10)))++([(jk (IntKind.u64.wrap (48+(Int.tmod n 10))))]:List UInt8))) m
 rw [E5 (by omega)] at U
 rw [hw,au,FU (by omega) (by omega)]
 exact U
theorem Mj:∀(k:Nat) (n:Int),n.toNat<k→0≤n→n≤18446744073709551615→∀(m:ad) (K:R→ad→Prop),K (.str (Lib.itoa n)) m→bn Tryz.prog 95 [.int .u64 n] m K
 |0,_,h=>absurd h (Nat.not_lt_zero _)
 |k+1,n,h=>fun I J m K U=>XA n I J (fun q aO a b=>Mj k q (by omega) a b) m K U
theorem XB (n:Int) (I:0≤n) (J:n≤18446744073709551615) (m:ad) (K:R→ad→Prop) (U:K (.str (Lib.itoa n)) m):bn Tryz.prog 95 [.int .u64 n] m K:=Mj (n.toNat+1) n (Nat.lt_succ_self _) I J m K U
end Go.Proofs
end
