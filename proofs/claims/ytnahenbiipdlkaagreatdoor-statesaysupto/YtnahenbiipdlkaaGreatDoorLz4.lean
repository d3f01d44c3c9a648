import Derived.Test.YtnahenbiipdlkaaGreatDoorSv4
import Derived.Test.YtnahenbiipdlkaaGreatDoorProg
import Derived.Test.YtnahenbiipdlkaaGreatDoorWyD
import Derived.Test.YtnahenbiipdlkaaGreatDoorWxk
import Derived.Test.YtnahenbiipdlkaaGreatDoorWzG
section
namespace Go.Proofs
open Go Go.bh Go.bS
set_option maxRecDepth 100000
def hO {α:Type} (g:α→Int) (l:List α) (d:Int):Int:=l.foldl (fun d x=>if g x>d then g x else d) d
def eS:Nat→aR→Int
 |0,_=>0
 |k+1,v=>hO (fun p=>eS k p.2) v.f (hO (eS k) v.l 0)+1
theorem J9 {α:Type} [Inhabited α] (g:α→Int) {l:List α} {i:Int} (d:Int) (aq:0≤i) (ab:i<l.length):hO g (l.take (i+1).toNat) d=if g (aa l i)>hO g (l.take i.toNat) d then g (aa l i) else hO g (l.take i.toNat) d:=by
 rw [lP aq ab];unfold hO;rw [List.foldl_append];rfl
theorem tT {α:Type} (g:α→Int) (B:Int):∀(l:List α) (d:Int),(hO g l d≤B↔d≤B∧∀x∈l,g x≤B)
 |[],d=>by simp [hO]
 |x::r,d=>by
  rw [show hO g (x::r) d=hO g r (if g x>d then g x else d) from rfl,tT g B r]
  simp only [List.mem_cons,forall_eq_or_imp]
  split<;>constructor<;>(intro h;refine ⟨?_,?_⟩)<;>first|omega|exact h.2|(refine ⟨?_,?_⟩<;>first|omega|exact h.2)|exact h.2.2
theorem EY {α:Type} (g:α→Int):∀(l:List α) (d:Int),d≤hO g l d
 |[],d=>Int.le_refl _
 |x::r,d=>by
  rw [show hO g (x::r) d=hO g r (if g x>d then g x else d) from rfl]
  refine Int.le_trans ?_ (EY g r (if g x>d then g x else d))
  split<;>omega
theorem Ka {α:Type} [Inhabited α] (g:α→Nat) {l:List α} {i:Int} (aq:0≤i) (ab:i<l.length):hy g (l.take (i+1).toNat)=hy g (l.take i.toNat)+g (aa l i):=by
 have e:∀(a b:List α),hy g (a++b)=hy g a+hy g b:=fun a b=>by
  induction a with
  |nil=>simp [hy]
  |cons x r aQ=>simp only [List.cons_append,hy,aQ];omega
 rw [lP aq ab,e];simp [hy]
theorem Bd {α:Type} (g:α→Nat) (l:List α) (k:Nat):hy g (l.take k)≤hy g l:=by
 induction l generalizing k with
 |nil=>simp
 |cons x r aQ=>
  cases k with
  |zero=>simp [hy]
  |succ k=>rw [List.take_succ_cons,hy,hy];have:=aQ k;omega
theorem yH:∀(k:Nat) (v:aR),bq v<k→1≤eS k v∧eS k v≤bq v
 |0,_,h=>absurd h (Nat.not_lt_zero _)
 |k+1,v,h=>by
  have e:=fR v
  rw [eS]
  have I:=EY (eS k) v.l 0
  have J:=EY (fun p:ak×aR=>eS k p.2) v.f (hO (eS k) v.l 0)
  refine ⟨by omega,?_⟩
  have a:hO (eS k) v.l 0≤(bq v:Int)- 1:=(tT _ _ _ _).2 ⟨by omega,fun x ah=>by
   have q:=gP ah;have:=(yH k x (by omega)).2;omega⟩
  have b:hO (fun p:ak×aR=>eS k p.2) v.f (hO (eS k) v.l 0)≤(bq v:Int)- 1:=(tT _ _ _ _).2 ⟨a,fun x ah=>by
   have q:=gQ ah;have:=(yH k x.2 (by omega)).2;omega⟩
  omega
theorem EZ {α:Type} {g:α→Int→Bool×Int} {d:α→Nat} {h:α→Prop}:∀(l:List α) (n:Int),0≤n→(∀x∈l,∀n,0≤n→((g x n).1=true↔(d x:Int)≤n∧h x))→(∀x n,0≤n→(g x n).1=true→0≤(g x n).2∧(g x n).2+d x=n)→((h0 g l n).1=true↔(hy d l:Int)≤n∧∀x∈l,h x)
 |[],n,aq,_,_=>by simp [h0,hy,aq]
 |x::r,n,aq,a8,aj=>by
  rw [h0,hy]
  have ah:=a8 x (List.mem_cons_self ..) n aq
  by_cases c:(g x n).1=true
  · have q:=aj x n aq c
    rw [if_pos c,EZ r _ q.1 (fun y aE=>a8 y (List.mem_cons_of_mem _ aE)) aj]
    have:=ah.1 c
    simp only [List.mem_cons,forall_eq_or_imp]
    constructor
    · intro z;exact ⟨by push_cast;omega,this.2,z.2⟩
    · intro z;exact ⟨by have:=z.1;push_cast at this;omega,z.2.2⟩
  · rw [if_neg c]
    simp only [Bool.false_eq_true,false_iff]
    intro z
    exact c (ah.2 ⟨by have:=z.1;push_cast at this;omega,z.2 x (List.mem_cons_self ..)⟩)
theorem yI:∀(k:Nat) (deep:Int) (v:aR) (n:Int),bq v<k→0≤n→1≤deep→((ei k deep v n).1=true↔(bq v:Int)≤n∧deep+eS k v≤7)
 |0,_,_,_,h,_,_=>absurd h (Nat.not_lt_zero _)
 |k+1,deep,v,n,h,aq,I=>by
  have e:=fR v
  have ba:=yH (k+1) v h
  have Uk:∀x∈v.l,∀n,0≤n→((ei k (deep+1) x n).1=true↔(bq x:Int)≤n∧(eS k x≤6- deep)):=fun x ah n aL=>by
   have q:=gP ah
   rw [yI k (deep+1) x n (by omega) aL (by omega)]
   constructor<;>(intro z;exact ⟨z.1,by omega⟩)
  have Ul:∀x∈v.f,∀n,0≤n→((ei k (deep+1) x.2 n).1=true↔(bq x.2:Int)≤n∧(eS k x.2≤6- deep)):=fun x ah n aL=>by
   have q:=gQ ah
   rw [yI k (deep+1) x.2 n (by omega) aL (by omega)]
   constructor<;>(intro z;exact ⟨z.1,by omega⟩)
  have Um:deep+eS (k+1) v≤7↔deep≤6∧(∀x∈v.l,eS k x≤6- deep)∧∀x∈v.f,eS k x.2≤6- deep:=by
   rw [eS]
   have a:=tT (eS k) (6- deep) v.l 0
   have b:=tT (fun p:ak×aR=>eS k p.2) (6- deep) v.f (hO (eS k) v.l 0)
   constructor
   · intro z
     have bH:=b.1 (by omega)
     have dt:=a.1 bH.1
     exact ⟨by omega,dt.2,bH.2⟩
   · intro z
     have dt:=a.2 ⟨by omega,z.2.1⟩
     have bH:=b.2 ⟨dt,z.2.2⟩
     omega
  rw [Um,ei]
  have bO:=A9 v.l
  have aah:=Ba v.f
  by_cases c:6<deep∨n- 1<0
  · rw [if_pos c]
    simp only [Bool.false_eq_true,false_iff]
    intro z
    rcases c with c|c<;>omega
  · rw [if_neg c]
    have Kb:=EZ (d:=bq) (h:=fun x=>eS k x≤6- deep) v.l (n- 1) (by omega) Uk (fun x n aL ah=>sB k (deep+1) x n aL ah)
    by_cases c2:(h0 (ei k (deep+1)) v.l (n- 1)).1=false
    · rw [if_pos c2]
      simp only [Bool.false_eq_true,false_iff]
      intro z
      have:(h0 (ei k (deep+1)) v.l (n- 1)).1=true:=Kb.2 ⟨by omega,z.2.2.1⟩
      rw [c2] at this;cases this
    · have c3:(h0 (ei k (deep+1)) v.l (n- 1)).1=true:=by simpa using c2
      rw [if_neg c2]
      have a:=Bb (d:=bq) (g:=ei k (deep+1)) (fun x n aL ah=>sB k (deep+1) x n aL ah) v.l (n- 1) (by omega) c3
      have i2:=EZ (g:=fun p:ak×aR=>ei k (deep+1) p.2) (d:=fun p:ak×aR=>bq p.2) (h:=fun x=>eS k x.2≤6- deep) v.f _ a.1 Ul (fun x n aL ah=>sB k (deep+1) x.2 n aL ah)
      rw [i2]
      have q:=Kb.1 c3
      constructor
      · intro z;exact ⟨by omega,by omega,q.2,z.2⟩
      · intro z;exact ⟨by omega,z.2.2.2⟩
theorem E0 {v:aR}:bF v=if (60<(bq v:Int)∨6<eS (bq v+1) v) then 2 else if cL (bq v+1) v=true then 0 else 3:=by
 have q:=yI (bq v+1) 1 v 60 (Nat.lt_succ_self _) (by omega) (by omega)
 unfold bF
 by_cases c:(ei (bq v+1) 1 v 60).1=true
 · have:=q.1 c
   rw [if_pos c,if_neg (by omega)];rfl
 · rw [if_neg c,if_pos (by
    refine Classical.byContradiction fun z=>c (q.2 ⟨by omega,by omega⟩))]
set_option maxHeartbeats 4000000 in
theorem Un (k:Nat) (v:aR) (b4:bq v≤1000000000000) (aQ:∀w:aR,bq w<bq v→∀(m:ad) (K:R→ad→Prop),K (.tuple [.int .i64 (bq w:Int), .int .i64 (eS k w)]) m→bn Tryz.prog 145 [cG w] m K) (aY:bq v<k+1) (m:ad) (K:R→ad→Prop) (U:K (.tuple [.int .i64 (bq v:Int), .int .i64 (eS (k+1) v)]) m):bn Tryz.prog 145 [cG v] m K:=by
 have Uo:=fR v
 have gH:=A9 v.l
 have aai:=Ba v.f
 refine enter (c:=cP [] [0] [] [] [] []) (vs:=[.aK (cG v)]) (L:=[]) (m:=m) false cc Tryz.mixed Tryz.func145 rfl (k:=1) (by show cJ [] _ _ _=true;decide+kernel) rfl (Good.nil m) ?_
 refine ⟨fun c6=>?_⟩
 have rj:v.s.length≤140737488355328:=(c6 0 2 (Nat.le_of_ble_eq_true rfl))
 have pY:v.l.length≤140737488355328:=gj (c6 0 3 (Nat.le_of_ble_eq_true rfl))
 have rk:v.f.length≤140737488355328:=gj (c6 0 4 (Nat.le_of_ble_eq_true rfl))
 refine aZ ?_
 refine ev (σ:=Int×Int×Int) [] [1,4,5,6] 1 (fun ⟨jB,d1,i⟩=>([(1, .loc 0 0),(4,aw jB),(5,aw d1),(6,aw i)],[.cells [aw v.kind,aw v.n,bf v.s,bj (v.l.map cm),bj (v.f.map bB)]],m)) (fun ⟨jB,d1,i⟩=>0≤i∧i≤v.l.length∧jB=1+hy bq (v.l.take i.toNat)∧d1=hO (eS k) (v.l.take i.toNat) 0∧0≤d1∧d1≤bq v) (fun ⟨jB,d1,i⟩=>v.l.length- i.toNat) (1,0,0) ⟨rfl,rfl⟩ ?_ ?_
 · try dsimp only
   exact ⟨by omega,by omega,by simp [hy],by simp [hO],by omega,by omega⟩
 rintro ⟨jB,d1,i⟩ aM
 dsimp only at aM
 have vC:=Bd bq v.l i.toNat
 refine aZ ?_
 refine dq ?_
 refine an (fun I=>?_) (fun I=>?_)
 · have Up:=gP (ch (l:=v.l) (i:=i) aM.1 I)
   have bW:=Ka bq (l:=v.l) aM.1 I
   have n3:=yH k (aa v.l i) (by omega)
   have aaj:=Bd bq v.l (i+1).toNat
   refine aZ ?_
   refine e0 cG jN (by omega) ?_
   refine ct (fun _=>aQ (aa v.l i) (by have:=fR v;first|(have:=gP (ch (l:=v.l) (i:=i) aM.1 (by assumption));omega)|(have:=gQ (ch (l:=v.f) (i:=i2) cg.1 (by assumption));omega))) rfl ?_
   refine an (by omega) ?_
   refine an (by omega) ?_
   refine ⟨(jB+(bq (aa v.l i):Int),if eS k (aa v.l i)>d1 then eS k (aa v.l i) else d1,i+1),⟨rfl,rfl⟩,?_,?_⟩
   · try dsimp only
     refine ⟨by omega,by omega,by omega,?_,?_,?_⟩
     · rw [J9 _ _ aM.1 I,←aM.2.2.2.1]
     · split<;>omega
     · split<;>omega
   try dsimp only
   omega
 have Uq:v.l.take i.toNat=v.l:=jM I
 refine aZ ?_
 refine ev (σ:=Int×Int×Int) [] [1,4,5,9] 1 (fun ⟨gq,d2,i2⟩=>([(1, .loc 0 0),(4,aw gq),(5,aw d2),(9,aw i2)],[.cells [aw v.kind,aw v.n,bf v.s,bj (v.l.map cm),bj (v.f.map bB)]],m)) (fun ⟨gq,d2,i2⟩=>0≤i2∧i2≤v.f.length∧gq=1+k4 v.l+hy (fun p:ak×aR=>bq p.2) (v.f.take i2.toNat)∧d2=hO (fun p:ak×aR=>eS k p.2) (v.f.take i2.toNat) (hO (eS k) v.l 0)∧0≤d2∧d2≤bq v) (fun ⟨gq,d2,i2⟩=>v.f.length- i2.toNat) (jB,d1,0) ⟨rfl,rfl⟩ ?_ ?_
 · try dsimp only
   rw [Uq] at aM
   exact ⟨by omega,by omega,by simp [hy];omega,by simp [hO];exact aM.2.2.2.1,by omega,by omega⟩
 rintro ⟨gq,d2,i2⟩ cg
 dsimp only at cg
 have sD:=Bd (fun p:ak×aR=>bq p.2) v.f i2.toNat
 refine aZ ?_
 refine dq ?_
 refine an (fun J=>?_) (fun J=>?_)
 · have Up:=gQ (ch (l:=v.f) (i:=i2) cg.1 J)
   have bW:=Ka (fun p:ak×aR=>bq p.2) (l:=v.f) cg.1 J
   have n3:=yH k (aa v.f i2).2 (by omega)
   have aak:=Bd (fun p:ak×aR=>bq p.2) v.f (i2+1).toNat
   refine aZ ?_
   refine e0 gA fI (by omega) ?_
   refine ct (fun _=>aQ ((aa v.f i2).2) (by have:=fR v;first|(have:=gP (ch (l:=v.l) (i:=i) aM.1 (by assumption));omega)|(have:=gQ (ch (l:=v.f) (i:=i2) cg.1 (by assumption));omega))) rfl ?_
   refine an (by omega) ?_
   refine an (by omega) ?_
   refine ⟨(gq+(bq ((aa v.f i2).2):Int),if eS k ((aa v.f i2).2)>d2 then eS k ((aa v.f i2).2) else d2,i2+1),⟨rfl,rfl⟩,?_,?_⟩
   · try dsimp only
     refine ⟨by omega,by omega,by omega,?_,?_,?_⟩
     · rw [J9 (fun p:ak×aR=>eS k p.2) _ cg.1 J,←cg.2.2.2.1]
     · split<;>omega
     · split<;>omega
   try dsimp only
   omega
 refine an (by omega) ?_
 refine bt rfl fun _=>?_
 show K (.tuple [.int .i64 gq, .int .i64 (d2+1)]) m
 have Ur:v.f.take i2.toNat=v.f:=jM J
 rw [Ur] at cg
 have ax:gq=(bq v:Int):=by omega
 have aI:d2+1=eS (k+1) v:=by rw [eS,←cg.2.2.2.1]
 rw [ax,aI];exact U
theorem Kc:∀(k:Nat) (v:aR),bq v<k→bq v≤1000000000000→∀(m:ad) (K:R→ad→Prop),K (.tuple [.int .i64 (bq v:Int), .int .i64 (eS k v)]) m→bn Tryz.prog 145 [cG v] m K
 |0,_,h=>absurd h (Nat.not_lt_zero _)
 |k+1,v,h=>fun b4 m K U=>Un k v b4 (fun w hw=>Kc k w (by omega) (by omega)) h m K U
set_option maxHeartbeats 2000000 in
theorem vS (s:ak) (m:ad) (K:R→ad→Prop) (U:K (.bool (b1 s)) m):bn Tryz.prog 41 [.str s] m K:=by
 refine enter (c:=cP [] [0] [1,6,7,8] [] [] []) (vs:=[.aK (.str s)]) (L:=[]) (m:=m) false cc Tryz.mixed Tryz.func41 rfl (k:=1) (by show cJ [] _ _ _=true;decide+kernel) rfl (Good.nil m) ?_
 refine ⟨fun c6=>?_⟩
 have yJ:s.length≤140737488355328:=c6 0
 refine aZ ?_
 refine cx [0] 13 ((decide ((s.length:Int)<1))||(decide (12<(s.length:Int)))) ?_ ?_
 · repeat' first
    |exact ⟨⟨_,rfl,by grind [bM.val]⟩,rfl⟩
    |refine an (fun _=>?_) (fun _=>?_)
 refine an (fun I=>?_) (fun I=>?_)
 · replace I:((s.length:Int)<1)∨(12<(s.length:Int)):=((da I).imp (fun q=>(of_decide_eq_true q)) (fun q=>(of_decide_eq_true q)))
   refine bt rfl fun _=>e9 U ?_
   show R.bool (b1 s)=R.bool false
   refine congrArg R.bool ?_
   rw [b1];cases s<;>simp_all<;>omega
 replace I:(1≤(s.length:Int))∧((s.length:Int)≤12):=⟨(Int.not_lt.1 (of_decide_eq_false (bZ I))),(Int.not_lt.1 (of_decide_eq_false (c8 I)))⟩
 refine aZ ?_
 refine ev (σ:=Int) [] [0,3] 0 (fun i=>([(0,bf s),(3,aw i)],[],m)) (fun i=>0≤i∧i≤s.length∧kE s true=kE (s.drop i.toNat) (i==0)) (fun i=>s.length- i.toNat) (0) ⟨rfl,rfl⟩ ?_ ?_
 · try dsimp only
   exact ⟨by omega,by omega,by simp⟩
 rintro i aM
 refine aZ ?_
 refine an (fun J=>?_) (fun J=>?_)
 · refine aZ ?_
   refine cx [0,3] 4 ((decide (97≤((aa s i).toNat:Int)))&&(decide (((aa s i).toNat:Int)≤122))) ?_ ?_
   · repeat' first
      |exact ⟨⟨_,rfl,by grind [bM.val]⟩,rfl⟩
      |refine an (fun _=>?_) (fun _=>?_)
      |refine an (by omega) ?_
   refine cx [0,3,4] 5 ((decide (48≤((aa s i).toNat:Int)))&&(decide (((aa s i).toNat:Int)≤57))) ?_ ?_
   · repeat' first
      |exact ⟨⟨_,rfl,by grind [bM.val]⟩,rfl⟩
      |refine an (fun _=>?_) (fun _=>?_)
      |refine an (by omega) ?_
   refine cx [0,3] 49 ((!((decide (97≤((aa s i).toNat:Int)))&&(decide (((aa s i).toNat:Int)≤122))))&&((!((decide (48≤((aa s i).toNat:Int)))&&(decide (((aa s i).toNat:Int)≤57))))||(i==0))) ?_ ?_
   · repeat' first
      |exact ⟨⟨_,rfl,by grind [bM.val]⟩,rfl⟩
      |refine an (fun _=>?_) (fun _=>?_)
   refine an (fun ai=>?_) (fun ai=>?_)
   · replace ai:((((aa s i).toNat:Int)<97)∨(122<((aa s i).toNat:Int)))∧(((((aa s i).toNat:Int)<48)∨(57<((aa s i).toNat:Int)))∨(i=0)):=⟨((fZ (dD (e4 ai))).imp (fun q=>(Int.not_le.1 (of_decide_eq_false q))) (fun q=>(Int.not_le.1 (of_decide_eq_false q)))),((da (fY ai)).imp (fun q=>((fZ (dD q)).imp (fun q=>(Int.not_le.1 (of_decide_eq_false q))) (fun q=>(Int.not_le.1 (of_decide_eq_false q))))) (fun q=>(eq_of_beq q)))⟩
     refine bt rfl fun _=>e9 U ?_
     show R.bool (b1 s)=R.bool false
     refine congrArg R.bool ?_
     have ae:(lR (aa s i)||(!(i==0)&&lS (aa s i)))=false:=by
      rw [Bool.eq_false_iff];intro ba;simp [lR,lS] at ba;omega
     rw [b1,aM.2.2,vO aM.1 J,ae];rfl
   replace ai:((97≤((aa s i).toNat:Int))∧(((aa s i).toNat:Int)≤122))∨(((48≤((aa s i).toNat:Int))∧(((aa s i).toNat:Int)≤57))∧(i≠0)):=((fZ ai).imp (fun q=>⟨(of_decide_eq_true (e4 (dC q))),(of_decide_eq_true (fY (dC q)))⟩) (fun q=>⟨⟨(of_decide_eq_true (e4 (dC (bZ q)))),(of_decide_eq_true (fY (dC (bZ q))))⟩,(ne_of_beq_false (c8 q))⟩))
   refine an (by omega) ?_
   refine ⟨(i+1),⟨rfl,rfl⟩,?_,?_⟩
   · try dsimp only
     have ae:(lR (aa s i)||(!(i==0)&&lS (aa s i)))=true:=by simp [lR,lS];omega
     exact ⟨by omega,by omega,by rw [aM.2.2,vO aM.1 J,ae];rfl⟩
   try dsimp only
   omega
 refine bt rfl fun _=>e9 U ?_
 show R.bool (b1 s)=R.bool true
 refine congrArg R.bool ?_
 have aH:kE s true=true:=by rw [aM.2.2,List.drop_eq_nil_of_le (by omega)];rfl
 rw [b1,aH];cases s<;>simp at*<;>omega
theorem nB (a b:Nat):((a:Int)+(b:Int)==0)=(((a:Int)==0)&&((b:Int)==0)):=by
 rw [Bool.eq_iff_iff];simp;omega
theorem Kd (p:Option ak):kF p []=true:=by cases p<;>rfl
theorem Us {k:Nat} {v:aR} (h:v.l.all (cL k)=false):cL (k+1) v=false:=by rw [cL,h];simp
theorem Ut {k:Nat} {v:aR} (h:v.f.all (fun p=>cL k p.2)=false):cL (k+1) v=false:=by rw [cL,h];simp
theorem Uu {v:aR} (h:kF none v.f=false):eD v=false:=by
 have aW:v.f≠[]:=by intro c;rw [c,Kd] at h;cases h
 have ar:0<v.f.length:=List.length_pos_iff.2 aW
 unfold eD
 repeat' split
 all_goals first|rfl|(rw [h];simp;done)|(rw [Bool.eq_false_iff];intro c;simp at c;first|omega|(simp_all;done))
theorem Ke {k:Nat} {v:aR} (h:kF none v.f=false):cL (k+1) v=false:=by rw [cL,Uu h];rfl
theorem tU {k:Nat} {v:aR} (I:v.l.all (cL k)=true) (J:v.f.all (fun p=>cL k p.2)=true):cL (k+1) v=eD v:=by rw [cL,I,J];simp
set_option maxHeartbeats 8000000 in
theorem Uv (k:Nat) (v:aR) (aQ:∀w:aR,bq w<bq v→∀(m:ad) (K:R→ad→Prop),K (.bool (cL k w)) m→bn Tryz.prog 146 [cG w] m K) (m:ad) (K:R→ad→Prop) (U:K (.bool (cL (k+1) v)) m):bn Tryz.prog 146 [cG v] m K:=by
 refine enter (c:=cP [] [0] [12,20,22,24,26,28,30] [] [] []) (vs:=[.aK (cG v)]) (L:=[]) (m:=m) false cc Tryz.mixed Tryz.func146 rfl (k:=1) (by show cJ [] _ _ _=true;decide+kernel) rfl (Good.nil m) ?_
 refine ⟨fun c6=>?_⟩
 have rj:v.s.length≤140737488355328:=(c6 0 2 (Nat.le_of_ble_eq_true rfl))
 have pY:v.l.length≤140737488355328:=gj (c6 0 3 (Nat.le_of_ble_eq_true rfl))
 have rk:v.f.length≤140737488355328:=gj (c6 0 4 (Nat.le_of_ble_eq_true rfl))
 refine aZ ?_
 refine ev (σ:=Int) [] [1,3] 1 (fun i=>([(1, .loc 0 0),(3,aw i)],[.cells [aw v.kind,aw v.n,bf v.s,bj (v.l.map cm),bj (v.f.map bB)]],m)) (fun i=>0≤i∧i≤v.l.length∧v.l.all (cL k)=(v.l.drop i.toNat).all (cL k)) (fun i=>v.l.length- i.toNat) (0) ⟨rfl,rfl⟩ ?_ ?_
 · try dsimp only
   exact ⟨by omega,by omega,rfl⟩
 rintro i aM
 refine aZ ?_
 refine dq ?_
 refine an (fun I=>?_) (fun I=>?_)
 · refine aZ ?_
   refine e0 cG jN (by omega) ?_
   refine ct (fun _=>aQ (aa v.l i) (by have:=fR v;first|(have:=gP (ch (l:=v.l) (i:=i) aM.1 (by assumption));omega)|(have:=gQ (ch (l:=v.f) (i:=i2) cg.1 (by assumption));omega))) rfl ?_
   refine an (fun J=>?_) (fun J=>?_)
   · refine an (by omega) ?_
     refine ⟨(i+1),⟨rfl,rfl⟩,?_,?_⟩
     · try dsimp only
       exact ⟨by omega,by omega,by rw [aM.2.2,sC aM.1 I,J,Bool.true_and]⟩
     try dsimp only
     omega
   refine bt rfl fun _=>?_
   show K (.bool false) m
   rw [Us (by rw [aM.2.2,sC aM.1 I,J,Bool.false_and])] at U;exact U
 have eh:v.l.all (cL k)=true:=by rw [aM.2.2,List.drop_eq_nil_of_le (by omega)];rfl
 refine aZ ?_
 refine ev (σ:=Int) [] [1,5] 1 (fun i2=>([(1, .loc 0 0),(5,aw i2)],[.cells [aw v.kind,aw v.n,bf v.s,bj (v.l.map cm),bj (v.f.map bB)]],m)) (fun i2=>0≤i2∧i2≤v.f.length∧v.f.all (fun p=>cL k p.2)=(v.f.drop i2.toNat).all (fun p=>cL k p.2)∧kF none v.f=kF (rl v.f i2) (v.f.drop i2.toNat)) (fun i2=>v.f.length- i2.toNat) (0) ⟨rfl,rfl⟩ ?_ ?_
 · try dsimp only
   exact ⟨by omega,by omega,rfl,rfl⟩
 rintro i2 cg
 refine aZ ?_
 refine dq ?_
 refine an (fun ai=>?_) (fun ai=>?_)
 · refine aZ ?_
   refine e0 gA fI (by omega) ?_
   refine ct (fun _=>aQ ((aa v.f i2).2) (by have:=fR v;first|(have:=gP (ch (l:=v.l) (i:=i) aM.1 (by assumption));omega)|(have:=gQ (ch (l:=v.f) (i:=i2) cg.1 (by assumption));omega))) rfl ?_
   refine e0 gA fI (by omega) ?_
   refine ct (fun _=>vS ((aa v.f i2).1)) rfl ?_
   refine cx [1,5] 73 (((!(cL k ((aa v.f i2).2)))||(!(b1 ((aa v.f i2).1))))||((decide (0<i2))&&(!(Op.bytesLess ((aa v.f (i2- 1)).1) ((aa v.f i2).1))))) ?_ ?_
   · repeat' first
      |exact ⟨⟨_,rfl,by grind [bM.val]⟩,rfl⟩
      |refine an (fun _=>?_) (fun _=>?_)
      |refine an (by omega) ?_
      |refine e0 gA fI (by omega) ?_
   refine an (fun aC=>?_) (fun aC=>?_)
   · replace aC:((cL k ((aa v.f i2).2)=false)∨(b1 ((aa v.f i2).1)=false))∨((0<i2)∧(Op.bytesLess ((aa v.f (i2- 1)).1) ((aa v.f i2).1)=false)):=((da aC).imp (fun q=>((da q).imp (fun q=>(dD q)) (fun q=>(dD q)))) (fun q=>⟨(of_decide_eq_true (e4 q)),(dD (fY q))⟩))
     refine bt rfl fun _=>?_
     show K (.bool false) m
     have aA:cL (k+1) v=false:=by
      rcases aC with (q|q)|q
      · exact Ut (by rw [cg.2.2.1,sC (g:=fun p:ak×aR=>cL k p.2) cg.1 ai,q,Bool.false_and])
      · exact Ke (by rw [cg.2.2.2,vR cg.1 ai,q];rfl)
      · exact Ke (by rw [cg.2.2.2,vR cg.1 ai,q.2,show (i2==0)=false from by simp;omega];simp)
     rw [aA] at U;exact U
   replace aC:((cL k ((aa v.f i2).2)=true)∧(b1 ((aa v.f i2).1)=true))∧((i2≤0)∨(Op.bytesLess ((aa v.f (i2- 1)).1) ((aa v.f i2).1)=true)):=⟨⟨(dC (bZ (bZ aC))),(dC (c8 (bZ aC)))⟩,((fZ (c8 aC)).imp (fun q=>(Int.not_lt.1 (of_decide_eq_false q))) (fun q=>(dC q)))⟩
   refine an (by omega) ?_
   refine ⟨(i2+1),⟨rfl,rfl⟩,?_,?_⟩
   · try dsimp only
     have ae:((i2==0)||Op.bytesLess (aa v.f (i2- 1)).1 (aa v.f i2).1)=true:=by
      rcases aC.2 with q|q
      · have:i2=0:=by omega
        simp [this]
      · simp [q]
     exact ⟨by omega,by omega,by rw [cg.2.2.1,sC (g:=fun p:ak×aR=>cL k p.2) cg.1 ai,aC.1.1,Bool.true_and],by rw [cg.2.2.2,vR cg.1 ai,aC.1.2,ae];rfl⟩
   try dsimp only
   omega
 have cE:v.f.all (fun p=>cL k p.2)=true:=by rw [cg.2.2.1,List.drop_eq_nil_of_le (by omega)];rfl
 have c1:kF none v.f=true:=by rw [cg.2.2.2,List.drop_eq_nil_of_le (by omega),Kd]
 refine dq ?_
 refine dq ?_
 refine aZ ?_
 refine an (fun aN=>?_) (fun aN=>?_)
 · refine cx [] 2 ((((v.n==0)&&(v.s==([])))&&((v.l.length:Int)==0))&&((v.f.length:Int)==0)) ?_ ?_
   · repeat' first
      |exact ⟨⟨_,rfl,by grind [bM.val]⟩,rfl⟩
      |refine an (fun _=>?_) (fun _=>?_)
   refine bt rfl fun _=>?_
   show K (.bool ((((v.n==0)&&(v.s==([])))&&((v.l.length:Int)==0))&&((v.f.length:Int)==0))) m
   have bp:cL (k+1) v=eD v:=tU eh cE
   rw [bp] at U
   have oh:∀e:Bool,eD v=e→K (.bool e) m:=fun e q=>q▸U
   refine oh _ ?_
   unfold eD
   repeat rw [if_neg (by assumption)]
   all_goals first|rfl|(rw [if_pos (by assumption)];done)|(rw [if_pos (by assumption)];first|rfl|(simp only [c1,nB,Bool.and_true,Bool.and_assoc];done)|(simp only [c1,nB,Bool.and_true];ac_rfl))
 refine an (fun bE=>?_) (fun bE=>?_)
 · refine cx [] 2 (((((decide (-1000000000≤v.n))&&(decide (v.n≤1000000000)))&&(v.s==([])))&&((v.l.length:Int)==0))&&((v.f.length:Int)==0)) ?_ ?_
   · repeat' first
      |exact ⟨⟨_,rfl,by grind [bM.val]⟩,rfl⟩
      |refine an (fun _=>?_) (fun _=>?_)
   refine bt rfl fun _=>?_
   show K (.bool (((((decide (-1000000000≤v.n))&&(decide (v.n≤1000000000)))&&(v.s==([])))&&((v.l.length:Int)==0))&&((v.f.length:Int)==0))) m
   have bp:cL (k+1) v=eD v:=tU eh cE
   rw [bp] at U
   have oh:∀e:Bool,eD v=e→K (.bool e) m:=fun e q=>q▸U
   refine oh _ ?_
   unfold eD
   repeat rw [if_neg (by assumption)]
   all_goals first|rfl|(rw [if_pos (by assumption)];done)|(rw [if_pos (by assumption)];first|rfl|(simp only [c1,nB,Bool.and_true,Bool.and_assoc];done)|(simp only [c1,nB,Bool.and_true];ac_rfl))
 refine an (fun dk=>?_) (fun dk=>?_)
 · refine cx [] 2 ((((v.n==0)&&(decide ((v.s.length:Int)≤40)))&&((v.l.length:Int)==0))&&((v.f.length:Int)==0)) ?_ ?_
   · repeat' first
      |exact ⟨⟨_,rfl,by grind [bM.val]⟩,rfl⟩
      |refine an (fun _=>?_) (fun _=>?_)
   refine bt rfl fun _=>?_
   show K (.bool ((((v.n==0)&&(decide ((v.s.length:Int)≤40)))&&((v.l.length:Int)==0))&&((v.f.length:Int)==0))) m
   have bp:cL (k+1) v=eD v:=tU eh cE
   rw [bp] at U
   have oh:∀e:Bool,eD v=e→K (.bool e) m:=fun e q=>q▸U
   refine oh _ ?_
   unfold eD
   repeat rw [if_neg (by assumption)]
   all_goals first|rfl|(rw [if_pos (by assumption)];done)|(rw [if_pos (by assumption)];first|rfl|(simp only [c1,nB,Bool.and_true,Bool.and_assoc];done)|(simp only [c1,nB,Bool.and_true];ac_rfl))
 refine an (fun cW=>?_) (fun cW=>?_)
 · refine cx [] 2 (((((v.n==0)||(v.n==1))&&(v.s==([])))&&((v.l.length:Int)==0))&&((v.f.length:Int)==0)) ?_ ?_
   · repeat' first
      |exact ⟨⟨_,rfl,by grind [bM.val]⟩,rfl⟩
      |refine an (fun _=>?_) (fun _=>?_)
   refine bt rfl fun _=>?_
   show K (.bool (((((v.n==0)||(v.n==1))&&(v.s==([])))&&((v.l.length:Int)==0))&&((v.f.length:Int)==0))) m
   have bp:cL (k+1) v=eD v:=tU eh cE
   rw [bp] at U
   have oh:∀e:Bool,eD v=e→K (.bool e) m:=fun e q=>q▸U
   refine oh _ ?_
   unfold eD
   repeat rw [if_neg (by assumption)]
   all_goals first|rfl|(rw [if_pos (by assumption)];done)|(rw [if_pos (by assumption)];first|rfl|(simp only [c1,nB,Bool.and_true,Bool.and_assoc];done)|(simp only [c1,nB,Bool.and_true];ac_rfl))
 refine an (fun dB=>?_) (fun dB=>?_)
 · refine cx [] 2 (((v.n==0)&&(v.s==([])))&&((v.f.length:Int)==0)) ?_ ?_
   · repeat' first
      |exact ⟨⟨_,rfl,by grind [bM.val]⟩,rfl⟩
      |refine an (fun _=>?_) (fun _=>?_)
   refine bt rfl fun _=>?_
   show K (.bool (((v.n==0)&&(v.s==([])))&&((v.f.length:Int)==0))) m
   have bp:cL (k+1) v=eD v:=tU eh cE
   rw [bp] at U
   have oh:∀e:Bool,eD v=e→K (.bool e) m:=fun e q=>q▸U
   refine oh _ ?_
   unfold eD
   repeat rw [if_neg (by assumption)]
   all_goals first|rfl|(rw [if_pos (by assumption)];done)|(rw [if_pos (by assumption)];first|rfl|(simp only [c1,nB,Bool.and_true,Bool.and_assoc];done)|(simp only [c1,nB,Bool.and_true];ac_rfl))
 refine an (fun dV=>?_) (fun dV=>?_)
 · refine cx [] 2 (((v.n==0)&&(v.s==([])))&&((v.l.length:Int)==0)) ?_ ?_
   · repeat' first
      |exact ⟨⟨_,rfl,by grind [bM.val]⟩,rfl⟩
      |refine an (fun _=>?_) (fun _=>?_)
   refine bt rfl fun _=>?_
   show K (.bool (((v.n==0)&&(v.s==([])))&&((v.l.length:Int)==0))) m
   have bp:cL (k+1) v=eD v:=tU eh cE
   rw [bp] at U
   have oh:∀e:Bool,eD v=e→K (.bool e) m:=fun e q=>q▸U
   refine oh _ ?_
   unfold eD
   repeat rw [if_neg (by assumption)]
   all_goals first|rfl|(rw [if_pos (by assumption)];done)|(rw [if_pos (by assumption)];first|rfl|(simp only [c1,nB,Bool.and_true,Bool.and_assoc];done)|(simp only [c1,nB,Bool.and_true];ac_rfl))
 refine bt rfl fun _=>?_
 show K (.bool false) m
 have bp:cL (k+1) v=eD v:=tU eh cE
 rw [bp] at U
 have oh:∀e:Bool,eD v=e→K (.bool e) m:=fun e q=>q▸U
 refine oh _ ?_
 unfold eD
 repeat rw [if_neg (by assumption)]
 all_goals first|rfl|(rw [if_pos (by assumption)];done)|(rw [if_pos (by assumption)];first|rfl|(simp only [c1,nB,Bool.and_true,Bool.and_assoc];done)|(simp only [c1,nB,Bool.and_true];ac_rfl))
theorem E1 {v:aR} (h:60<(bq v:Int)∨6<eS (bq v+1) v):bF v=2:=by rw [E0,if_pos h]
theorem E2 {v:aR} (h:(bq v:Int)≤60∧eS (bq v+1) v≤6) (J:cL (bq v+1) v=false):bF v=3:=by rw [E0,if_neg (by omega),if_neg (by simp [J])]
theorem E3 {v:aR} (h:(bq v:Int)≤60∧eS (bq v+1) v≤6) (J:cL (bq v+1) v=true):bF v=0:=by rw [E0,if_neg (by omega),if_pos J]
theorem Kf:∀(k:Nat) (v:aR),bq v<k→∀(m:ad) (K:R→ad→Prop),K (.bool (cL k v)) m→bn Tryz.prog 146 [cG v] m K
 |0,_,h=>absurd h (Nat.not_lt_zero _)
 |k+1,v,h=>fun m K U=>Uv k v (fun w hw=>Kf k w (by omega)) m K U
set_option maxHeartbeats 2000000 in
theorem Kg (v:aR) (b4:bq v≤1000000000000) (m:ad) (K:R→ad→Prop) (U:K (.int .i64 (bF v)) m):bn Tryz.prog 79 [cG v] m K:=by
 refine enter (c:=cP [] [] [2] [] [] []) (vs:=[.aK (cG v)]) (L:=[]) (m:=m) false cc Tryz.mixed Tryz.func79 rfl (k:=1) (by show cJ [] _ _ _=true;decide+kernel) rfl (Good.nil m) ?_
 refine ct (fun _=>Kc (bq v+1) v (Nat.lt_succ_self _) b4) rfl ?_
 refine aZ ?_
 refine cx [1] 16 ((decide (60<(bq v:Int)))||(decide (6<eS (bq v+1) v))) ?_ ?_
 · repeat' first
    |exact ⟨⟨_,rfl,by grind [bM.val]⟩,rfl⟩
    |refine an (fun _=>?_) (fun _=>?_)
 refine an (fun I=>?_) (fun I=>?_)
 · replace I:(60<(bq v:Int))∨(6<eS (bq v+1) v):=((da I).imp (fun q=>(of_decide_eq_true q)) (fun q=>(of_decide_eq_true q)))
   have bp:bF v=(2:Int):=by
    first|exact E1 (by assumption)|exact E2 (by assumption) (by assumption)|exact E3 (by assumption) (by assumption)
   rw [bp] at U
   exact bt rfl fun _=>U
 replace I:((bq v:Int)≤60)∧(eS (bq v+1) v≤6):=⟨(Int.not_lt.1 (of_decide_eq_false (bZ I))),(Int.not_lt.1 (of_decide_eq_false (c8 I)))⟩
 refine ct (fun _=>Kf (bq v+1) v (Nat.lt_succ_self _)) rfl ?_
 refine aZ ?_
 refine an (fun J=>?_) (fun J=>?_)
 · have bp:bF v=(0:Int):=by
    first|exact E1 (by assumption)|exact E2 (by assumption) (by assumption)|exact E3 (by assumption) (by assumption)
   rw [bp] at U
   exact bt rfl fun _=>U
 have bp:bF v=(3:Int):=by
  first|exact E1 (by assumption)|exact E2 (by assumption) (by assumption)|exact E3 (by assumption) (by assumption)
 rw [bp] at U
 exact bt rfl fun _=>U
set_option maxHeartbeats 4000000 in
theorem Uw (a b:aR) (aQ:∀v w:aR,bq v<bq a→∀(m:ad) (K:R→ad→Prop),K (.bool (hd v w)) m→bn Tryz.prog 48 [cG v,cG w] m K) (m:ad) (K:R→ad→Prop) (U:K (.bool (hd a b)) m):bn Tryz.prog 48 [cG a,cG b] m K:=by
 refine enter (c:=cP [] [0] [1,13] [] [] []) (vs:=[.aK (cG a), .aK (cG b)]) (L:=[]) (m:=m) false cc Tryz.mixed Tryz.func48 rfl (k:=2) (by show cJ [] _ _ _=true;decide+kernel) rfl (Good.nil m) ?_
 refine ⟨fun c6=>?_⟩
 have rj:a.s.length≤140737488355328:=(c6 0 2 (Nat.le_of_ble_eq_true rfl))
 have pY:a.l.length≤140737488355328:=gj (c6 0 3 (Nat.le_of_ble_eq_true rfl))
 have rk:a.f.length≤140737488355328:=gj (c6 0 4 (Nat.le_of_ble_eq_true rfl))
 have J5:b.s.length≤140737488355328:=(c6 1 2 (Nat.le_of_ble_eq_true rfl))
 have J6:b.l.length≤140737488355328:=gj (c6 1 3 (Nat.le_of_ble_eq_true rfl))
 have J7:b.f.length≤140737488355328:=gj (c6 1 4 (Nat.le_of_ble_eq_true rfl))
 refine aZ ?_
 refine cx [2,3] 45 (((((!(a.kind==b.kind))||(!(a.n==b.n)))||(!(a.s==b.s)))||(!((a.l.length:Int)==(b.l.length:Int))))||(!((a.f.length:Int)==(b.f.length:Int)))) ?_ ?_
 · repeat' first
    |exact ⟨⟨_,rfl,by grind [bM.val]⟩,rfl⟩
    |refine an (fun _=>?_) (fun _=>?_)
    |refine dq ?_
 refine an (fun I=>?_) (fun I=>?_)
 · replace I:((((a.kind≠b.kind)∨(a.n≠b.n))∨(a.s≠b.s))∨((a.l.length:Int)≠(b.l.length:Int)))∨((a.f.length:Int)≠(b.f.length:Int)):=((da I).imp (fun q=>((da q).imp (fun q=>((da q).imp (fun q=>((da q).imp (fun q=>(ne_of_beq_false (dD q))) (fun q=>(ne_of_beq_false (dD q))))) (fun q=>(ne_of_beq_false (dD q))))) (fun q=>(ne_of_beq_false (dD q))))) (fun q=>(ne_of_beq_false (dD q))))
   refine bt rfl fun _=>?_
   show K (.bool false) m
   rw [vP (by intro ba;subst ba;simp at I)] at U;exact U
 replace I:((((a.kind=b.kind)∧(a.n=b.n))∧(a.s=b.s))∧((a.l.length:Int)=(b.l.length:Int)))∧((a.f.length:Int)=(b.f.length:Int)):=⟨⟨⟨⟨(eq_of_beq (dC (bZ (bZ (bZ (bZ I)))))),(eq_of_beq (dC (c8 (bZ (bZ (bZ I))))))⟩,(eq_of_beq (dC (c8 (bZ (bZ I)))))⟩,(eq_of_beq (dC (c8 (bZ I))))⟩,(eq_of_beq (dC (c8 I)))⟩
 obtain ⟨⟨⟨⟨aj,aL⟩,al⟩,ar⟩,aW⟩:=I
 refine aZ ?_
 refine ev (σ:=Int) [] [2,3,5] 2 (fun i=>([(2, .loc 0 0),(3, .loc 1 0),(5,aw i)],[.cells [aw a.kind,aw a.n,bf a.s,bj (a.l.map cm),bj (a.f.map bB)], .cells [aw b.kind,aw b.n,bf b.s,bj (b.l.map cm),bj (b.f.map bB)]],m)) (fun i=>0≤i∧i≤a.l.length∧a.l.take i.toNat=b.l.take i.toNat) (fun i=>a.l.length- i.toNat) (0) ⟨rfl,rfl⟩ ?_ ?_
 · try dsimp only
   exact ⟨by omega,by omega,rfl⟩
 rintro i aM
 refine aZ ?_
 refine dq ?_
 refine an (fun J=>?_) (fun J=>?_)
 · refine aZ ?_
   refine e0 cG jN (by omega) ?_
   refine e0 cG jN (by omega) ?_
   refine hx (fun _=>aQ (aa a.l i) (aa b.l i) (by have:=fR a;first|(have:=gP (ch (l:=a.l) (i:=i) aM.1 (by assumption));omega)|(have:=gQ (ch (l:=a.f) (i:=i2) cg.1 (by assumption));omega))) ?_
   refine an (fun ai=>?_) (fun ai=>?_)
   · refine an (by omega) ?_
     refine ⟨(i+1),⟨rfl,rfl⟩,?_,?_⟩
     · try dsimp only
       exact ⟨by omega,by omega,by rw [lP aM.1 J,lP aM.1 (by omega),aM.2.2,vQ.1 ai]⟩
     try dsimp only
     omega
   refine bt rfl fun _=>?_
   show K (.bool false) m
   rw [vP (by intro ba;subst ba;rw [tS rfl] at ai;cases ai)] at U;exact U
 refine aZ ?_
 refine ev (σ:=Int) [] [2,3,7] 2 (fun i2=>([(2, .loc 0 0),(3, .loc 1 0),(7,aw i2)],[.cells [aw a.kind,aw a.n,bf a.s,bj (a.l.map cm),bj (a.f.map bB)], .cells [aw b.kind,aw b.n,bf b.s,bj (b.l.map cm),bj (b.f.map bB)]],m)) (fun i2=>0≤i2∧i2≤a.f.length∧a.f.take i2.toNat=b.f.take i2.toNat) (fun i2=>a.f.length- i2.toNat) (0) ⟨rfl,rfl⟩ ?_ ?_
 · try dsimp only
   exact ⟨by omega,by omega,rfl⟩
 rintro i2 cg
 refine aZ ?_
 refine dq ?_
 refine an (fun aC=>?_) (fun aC=>?_)
 · refine aZ ?_
   refine e0 gA fI (by omega) ?_
   refine e0 gA fI (by omega) ?_
   refine hx (fun _=>aQ ((aa a.f i2).2) ((aa b.f i2).2) (by have:=fR a;first|(have:=gP (ch (l:=a.l) (i:=i) aM.1 (by assumption));omega)|(have:=gQ (ch (l:=a.f) (i:=i2) cg.1 (by assumption));omega))) ?_
   refine cx [2,3,7] 102 ((!(hd ((aa a.f i2).2) ((aa b.f i2).2)))||(!(((aa a.f i2).1)==((aa b.f i2).1)))) ?_ ?_
   · repeat' first
      |exact ⟨⟨_,rfl,by grind [bM.val]⟩,rfl⟩
      |refine an (fun _=>?_) (fun _=>?_)
      |refine e0 gA fI (by omega) ?_
   refine an (fun aN=>?_) (fun aN=>?_)
   · replace aN:(hd ((aa a.f i2).2) ((aa b.f i2).2)=false)∨((aa a.f i2).1≠(aa b.f i2).1):=((da aN).imp (fun q=>(dD q)) (fun q=>(ne_of_beq_false (dD q))))
     refine bt rfl fun _=>?_
     show K (.bool false) m
     rw [vP (by intro ba;subst ba;rw [tS rfl] at aN;simp at aN)] at U;exact U
   replace aN:(hd ((aa a.f i2).2) ((aa b.f i2).2)=true)∧((aa a.f i2).1=(aa b.f i2).1):=⟨(dC (bZ aN)),(eq_of_beq (dC (c8 aN)))⟩
   refine an (by omega) ?_
   refine ⟨(i2+1),⟨rfl,rfl⟩,?_,?_⟩
   · try dsimp only
     exact ⟨by omega,by omega,by rw [lP cg.1 aC,lP cg.1 (by omega),cg.2.2,Prod.ext aN.2 (vQ.1 aN.1)]⟩
   try dsimp only
   omega
 refine bt rfl fun _=>?_
 show K (.bool true) m
 rw [tS (aR.ext' aj aL al (by have:=aM.2.2;rwa [jM (by omega),jM (by omega)] at this) (by have:=cg.2.2;rwa [jM (by omega),jM (by omega)] at this))] at U;exact U
theorem Kh:∀(n:Nat) (a b:aR),bq a<n→∀(m:ad) (K:R→ad→Prop),K (.bool (hd a b)) m→bn Tryz.prog 48 [cG a,cG b] m K
 |0,_,_,h=>absurd h (Nat.not_lt_zero _)
 |n+1,a,b,h=>fun m K U=>Uw a b (fun v w bc=>Kh n v w (by omega)) m K U
theorem Ki (a b:aR) (m:ad) (K:R→ad→Prop) (U:K (.bool (hd a b)) m):bn Tryz.prog 48 [cG a,cG b] m K:=Kh (bq a+1) a b (Nat.lt_succ_self _) m K U
end Go.Proofs
end
section
namespace Go.Proofs
open Go Go.bh Go.bS
set_option maxRecDepth 100000
def sE (h:Int) (c:UInt8):Int:=IntKind.u64.wrap (IntKind.u64.wrap ((BitVec.ofInt IntKind.u64.bits h ^^^ BitVec.ofInt IntKind.u64.bits (IntKind.u64.wrap c.toNat)).toNat)*1099511628211)
def jt (s:List UInt8):Int:=s.foldl sE 14695981039346656037
theorem Kj {s:List UInt8} {i:Int} (aq:0≤i) (ab:i<s.length):(s.take (i+1).toNat).foldl sE 14695981039346656037=sE ((s.take i.toNat).foldl sE 14695981039346656037) (aa s i):=by
 rw [lP aq ab,List.foldl_append];rfl
theorem Kk (s:List UInt8) (m:ad) (K:R→ad→Prop) (U:K (.int .u64 (jt s)) m):bn Tryz.prog 89 [.str s] m K:=by
 refine enter (c:=cP [] [0] [] [] [] []) (vs:=[.aK (.str s)]) (L:=[]) (m:=m) false cc Tryz.mixed Tryz.func89 rfl (k:=1) (by show cJ [] _ _ _=true;decide+kernel) rfl (Good.nil m) ?_
 refine ⟨fun c6=>?_⟩
 have yJ:s.length≤140737488355328:=c6 0
 refine aZ ?_
 refine ev (σ:=Int×Int) [] [0,3,6,7] 0 (fun ⟨h,i⟩=>([(0,bf s),(3, .aK (.int .u64 h)),(6,aw (s.length:Int)),(7,aw i)],[],m)) (fun ⟨h,i⟩=>0≤i∧i≤s.length∧h=(s.take i.toNat).foldl sE 14695981039346656037) (fun ⟨h,i⟩=>s.length- i.toNat) (14695981039346656037,0) ⟨rfl,rfl⟩ ?_ ?_
 · try dsimp only
   exact ⟨by omega,by omega,rfl⟩
 rintro ⟨h,i⟩ aM
 dsimp only at aM
 refine aZ ?_
 refine an (fun I=>?_) (fun I=>?_)
 · refine aZ ?_
   refine an (by omega) ?_
   refine an (by omega) ?_
   refine ⟨(IntKind.u64.wrap ((IntKind.u64.wrap (BitVec.ofInt IntKind.u64.bits h ^^^ BitVec.ofInt IntKind.u64.bits (IntKind.u64.wrap ((aa s i).toNat))).toNat)*1099511628211),i+1),⟨rfl,rfl⟩,?_,?_⟩
   · try dsimp only
     exact ⟨by omega,by omega,by rw [Kj aM.1 I,←aM.2.2];rfl⟩
   try dsimp only
   omega
 refine bt rfl fun _=>?_
 show K (.int .u64 h) m
 have e:h=jt s:=by rw [aM.2.2,jM I];rfl
 subst e;exact U
theorem Ux (s:List UInt8) (m:ad) (K:R→ad→Prop) (U:K (.int .u64 (jt s)) m):bn Tryz.prog 96 [.str s] m K:=by
 refine enter (c:=cP [] [0] [] [] [] []) (vs:=[.aK (.str s)]) (L:=[]) (m:=m) false cc Tryz.mixed Tryz.func96 rfl (k:=1) (by show cJ [] _ _ _=true;decide+kernel) rfl (Good.nil m) ?_
 refine ⟨fun c6=>?_⟩
 have yJ:s.length≤140737488355328:=c6 0
 refine aZ ?_
 refine ev (σ:=Int×Int) [] [0,3,4] 0 (fun ⟨h,i⟩=>([(0,bf s),(3, .aK (.int .u64 h)),(4,aw i)],[],m)) (fun ⟨h,i⟩=>0≤i∧i≤s.length∧h=(s.take i.toNat).foldl sE 14695981039346656037) (fun ⟨h,i⟩=>s.length- i.toNat) (14695981039346656037,0) ⟨rfl,rfl⟩ ?_ ?_
 · try dsimp only
   exact ⟨by omega,by omega,rfl⟩
 rintro ⟨h,i⟩ aM
 dsimp only at aM
 refine aZ ?_
 refine an (fun I=>?_) (fun I=>?_)
 · refine aZ ?_
   refine an (by omega) ?_
   refine an (by omega) ?_
   refine ⟨(IntKind.u64.wrap ((IntKind.u64.wrap (BitVec.ofInt IntKind.u64.bits h ^^^ BitVec.ofInt IntKind.u64.bits (IntKind.u64.wrap ((aa s i).toNat))).toNat)*1099511628211),i+1),⟨rfl,rfl⟩,?_,?_⟩
   · try dsimp only
     exact ⟨by omega,by omega,by rw [Kj aM.1 I,←aM.2.2];rfl⟩
   try dsimp only
   omega
 refine bt rfl fun _=>?_
 show K (.int .u64 h) m
 have e:h=jt s:=by rw [aM.2.2,jM I];rfl
 subst e;exact U
def tV:ak:=[48,49,50,51,52,53,54,55,56,57,97,98,99,100,101,102]
def ir (c:UInt8):ak:=
 if (c.toNat:Int)=34∨(c.toNat:Int)=92 then [92,c]
 else if (c.toNat:Int)<32∨126<(c.toNat:Int) then [92,120,aa tV (c.toNat/16:Nat),aa tV (c.toNat%16:Nat)]
 else [c]
def k5 (s:ak):ak:=34::s.flatMap ir++[34]
theorem Uy (c:UInt8):(ir c).length≤4:=by unfold ir;repeat' split
                                         all_goals simp
theorem Kl (s:ak):(s.flatMap ir).length≤4*s.length:=by
 induction s with
 |nil=>simp
 |cons c r aQ=>rw [List.flatMap_cons,List.length_append,List.length_cons];have:=Uy c;omega
theorem vT {s:ak} {i:Int} (aq:0≤i) (ab:i<s.length):(s.take (i+1).toNat).flatMap ir=(s.take i.toNat).flatMap ir++ir (aa s i):=by
 rw [lP aq ab,List.flatMap_append];simp
theorem Km (s:ak) (k:Nat):((s.take k).flatMap ir).length≤4*s.length:=by
 have:=Kl (s.take k)
 have:(s.take k).length≤s.length:=by rw [List.length_take];omega
 omega
theorem nC (c:UInt8):Int.fdiv (c.toNat:Int) (2^(min (Int.toNat 4) IntKind.u8.bits))=(c.toNat/16:Nat):=by
 have:∀n:Fin 256,Int.fdiv (n.val:Int) (2^(min (Int.toNat 4) IntKind.u8.bits))=(n.val/16:Nat):=by decide+kernel
 exact this ⟨c.toNat,c.toNat_lt⟩
theorem oi (c:UInt8):IntKind.u8.wrap (BitVec.ofInt IntKind.u8.bits (c.toNat:Int) &&& BitVec.ofInt IntKind.u8.bits 15).toNat=(c.toNat%16:Nat):=by
 have:∀n:Fin 256,IntKind.u8.wrap (BitVec.ofInt IntKind.u8.bits (n.val:Int) &&& BitVec.ofInt IntKind.u8.bits 15).toNat=(n.val%16:Nat):=by decide+kernel
 exact this ⟨c.toNat,c.toNat_lt⟩
theorem oj (c:UInt8):IntKind.u8.wrap (Int.tdiv (c.toNat:Int) 16)=(c.toNat/16:Nat):=by
 have:∀n:Fin 256,IntKind.u8.wrap (Int.tdiv (n.val:Int) 16)=(n.val/16:Nat):=by decide+kernel
 exact this ⟨c.toNat,c.toNat_lt⟩
theorem nD (c:UInt8):Int.tmod (c.toNat:Int) 16=(c.toNat%16:Nat):=by
 have:∀n:Fin 256,Int.tmod (n.val:Int) 16=(n.val%16:Nat):=by decide+kernel
 exact this ⟨c.toNat,c.toNat_lt⟩
theorem nE (c:UInt8):c.toNat<256:=c.toNat_lt
theorem Uz (c:UInt8):0≤(4:Int)∧IntKind.u8.min≤Int.fdiv (c.toNat:Int) (2^(min (Int.toNat 4) IntKind.u8.bits))∧Int.fdiv (c.toNat:Int) (2^(min (Int.toNat 4) IntKind.u8.bits))≤IntKind.u8.max:=by
 have:=nE c
 rw [nC];exact ⟨by omega,by show (0:Int)≤_;omega,by show _≤(255:Int);omega⟩
theorem UA (c:UInt8):(16:Int)≠0∧IntKind.u8.min≤Int.tmod (c.toNat:Int) 16∧Int.tmod (c.toNat:Int) 16≤IntKind.u8.max:=by
 have:=nE c
 rw [nD];exact ⟨by omega,by show (0:Int)≤_;omega,by show _≤(255:Int);omega⟩
set_option maxHeartbeats 1000000 in
theorem UB (s:ak) (al:s.length≤1000000000) (m:ad) (K:R→ad→Prop) (U:K (.str (k5 s)) m):bn Tryz.prog 196 [.str s] m K:=by
 refine enter (c:=cP [] [] [7,9] [] [] []) (vs:=[.aK (.str s)]) (L:=[]) (m:=m) false cc Tryz.mixed Tryz.func196 rfl (k:=1) (by show cJ [] _ _ _=true;decide+kernel) rfl (Good.nil m) ?_
 refine aZ ?_
 refine ev (σ:=(List UInt8)×Int) [] [0,3,8,9] 0 (fun ⟨b,i⟩=>([(0,bf s),(3, .own (b.map cB)),(8,aw (s.length:Int)),(9,aw i)],[],m)) (fun ⟨b,i⟩=>0≤i∧i≤s.length∧b=34::(s.take i.toNat).flatMap ir) (fun ⟨b,i⟩=>s.length- i.toNat) ([34],0) ⟨rfl,rfl⟩ ?_ ?_
 · try dsimp only
   exact ⟨by omega,by omega,rfl⟩
 rintro ⟨b,i⟩ aM
 dsimp only at aM
 have px:b.length≤1+4*s.length:=by rw [aM.2.2,List.length_cons];have:=Km s i.toNat;omega
 refine aZ ?_
 refine an (fun I=>?_) (fun I=>?_)
 · refine aZ ?_
   refine an ⟨by (first|omega|(have:=nE (aa s i);simp only [nC,oi,oj,nD,List.length_cons,List.length_nil];omega)),by (first|omega|(have:=nE (aa s i);simp only [nC,oi,oj,nD,List.length_cons,List.length_nil];omega))⟩ ?_
   refine cx [0,3,5,8,9] 19 ((((aa s i).toNat:Int)==34)||(((aa s i).toNat:Int)==92)) ?_ ?_
   · repeat' first
      |exact ⟨⟨_,rfl,by grind [bM.val]⟩,rfl⟩
      |refine an (fun _=>?_) (fun _=>?_)
   refine an (fun J=>?_) (fun J=>?_)
   · replace J:(((aa s i).toNat:Int)=34)∨(((aa s i).toNat:Int)=92):=((da J).imp (fun q=>(eq_of_beq q)) (fun q=>(eq_of_beq q)))
     refine ap cB b ([92,aa s i]:List UInt8) rfl rfl (fun _=>⟨rfl,rfl⟩) (by (simp only [List.length_append,List.length_cons,List.length_nil];omega)) ?_
     refine an (by omega) ?_
     refine ⟨(b++([92,aa s i]:List UInt8),i+1),⟨rfl,rfl⟩,?_,?_⟩
     · try dsimp only
       have e:ir (aa s i)=[92,aa s i]:=by rw [ir,if_pos (by assumption)]
       exact ⟨by omega,by omega,by rw [vT aM.1 I,e,aM.2.2];rfl⟩
     try dsimp only
     omega
   replace J:(((aa s i).toNat:Int)≠34)∧(((aa s i).toNat:Int)≠92):=⟨(ne_of_beq_false (bZ J)),(ne_of_beq_false (c8 J))⟩
   refine cx [0,3,5,8,9] 30 ((decide (((aa s i).toNat:Int)<32))||(decide (126<((aa s i).toNat:Int)))) ?_ ?_
   · repeat' first
      |exact ⟨⟨_,rfl,by grind [bM.val]⟩,rfl⟩
      |refine an (fun _=>?_) (fun _=>?_)
   refine an (fun ai=>?_) (fun ai=>?_)
   · replace ai:(((aa s i).toNat:Int)<32)∨(126<((aa s i).toNat:Int)):=((da ai).imp (fun q=>(of_decide_eq_true q)) (fun q=>(of_decide_eq_true q)))
     refine an (by exact Uz _) ?_
     refine an ⟨by (first|omega|(have:=nE (aa s i);simp only [nC,oi,oj,nD,List.length_cons,List.length_nil];omega)),by (first|omega|(have:=nE (aa s i);simp only [nC,oi,oj,nD,List.length_cons,List.length_nil];omega))⟩ ?_
     refine an ⟨by (first|omega|(have:=nE (aa s i);simp only [nC,oi,oj,nD,List.length_cons,List.length_nil];omega)),by (first|omega|(have:=nE (aa s i);simp only [nC,oi,oj,nD,List.length_cons,List.length_nil];omega))⟩ ?_
     refine ap cB b ([92,120,aa ([48,49,50,51,52,53,54,55,56,57,97,98,99,100,101,102]:List UInt8) (Int.fdiv ((aa s i).toNat) (2^(min (Int.toNat 4) IntKind.u8.bits))),aa ([48,49,50,51,52,53,54,55,56,57,97,98,99,100,101,102]:List UInt8) (IntKind.u8.wrap (BitVec.ofInt IntKind.u8.bits ((aa s i).toNat) &&& BitVec.ofInt IntKind.u8.bits 15).toNat)]:List UInt8) rfl rfl (fun _=>⟨rfl,rfl⟩) (by (simp only [List.length_append,List.length_cons,List.length_nil];omega)) ?_
     refine an (by omega) ?_
     refine ⟨(b++([92,120,aa ([48,49,50,51,52,53,54,55,56,57,97,98,99,100,101,102]:List UInt8) (Int.fdiv ((aa s i).toNat) (2^(min (Int.toNat 4) IntKind.u8.bits))),aa ([48,49,50,51,52,53,54,55,56,57,97,98,99,100,101,102]:List UInt8) (IntKind.u8.wrap (BitVec.ofInt IntKind.u8.bits ((aa s i).toNat) &&& BitVec.ofInt IntKind.u8.bits 15).toNat)]:List UInt8),i+1),⟨rfl,rfl⟩,?_,?_⟩
     · try dsimp only
       have e:ir (aa s i)=[92,120,aa tV ((aa s i).toNat/16:Nat),aa tV ((aa s i).toNat%16:Nat)]:=by rw [ir,if_neg (by omega),if_pos (by assumption)]
       exact ⟨by omega,by omega,by rw [vT aM.1 I,e,aM.2.2,nC,oi];rfl⟩
     try dsimp only
     omega
   replace ai:(32≤((aa s i).toNat:Int))∧(((aa s i).toNat:Int)≤126):=⟨(Int.not_lt.1 (of_decide_eq_false (bZ ai))),(Int.not_lt.1 (of_decide_eq_false (c8 ai)))⟩
   refine ap cB b ([aa s i]:List UInt8) rfl rfl (fun _=>⟨rfl,rfl⟩) (by (simp only [List.length_append,List.length_cons,List.length_nil];omega)) ?_
   refine an (by omega) ?_
   refine ⟨(b++([aa s i]:List UInt8),i+1),⟨rfl,rfl⟩,?_,?_⟩
   · try dsimp only
     have e:ir (aa s i)=[aa s i]:=by rw [ir,if_neg (by omega),if_neg (by omega)]
     exact ⟨by omega,by omega,by rw [vT aM.1 I,e,aM.2.2];rfl⟩
   try dsimp only
   omega
 refine ap cB b ([34]:List UInt8) rfl rfl (fun _=>⟨rfl,rfl⟩) (by (simp only [List.length_append,List.length_cons,List.length_nil];omega)) ?_
 refine pP ?_
 refine bt rfl fun _=>?_
 show K (.str (b++([34]:List UInt8))) m
 have e:b++[34]=k5 s:=by rw [aM.2.2,jM (by omega)];rfl
 rw [←e] at U;exact U
set_option maxHeartbeats 1000000 in
theorem UC (s:ak) (al:s.length≤1000000000) (m:ad) (K:R→ad→Prop) (U:K (.str (k5 s)) m):bn Tryz.prog 118 [.str s] m K:=by
 refine enter (c:=cP [] [] [6,8] [] [] []) (vs:=[.aK (.str s)]) (L:=[]) (m:=m) false cc Tryz.mixed Tryz.func118 rfl (k:=1) (by show cJ [] _ _ _=true;decide+kernel) rfl (Good.nil m) ?_
 refine aZ ?_
 refine ev (σ:=(List UInt8)×Int) [] [0,3,4] 0 (fun ⟨b,i⟩=>([(0,bf s),(3,bf b),(4,aw i)],[],m)) (fun ⟨b,i⟩=>0≤i∧i≤s.length∧b=(s.take i.toNat).flatMap ir) (fun ⟨b,i⟩=>s.length- i.toNat) ([],0) ⟨rfl,rfl⟩ ?_ ?_
 · try dsimp only
   exact ⟨by omega,by omega,rfl⟩
 rintro ⟨b,i⟩ aM
 dsimp only at aM
 have px:b.length≤4*s.length:=by rw [aM.2.2];exact Km s i.toNat
 refine aZ ?_
 refine an (fun I=>?_) (fun I=>?_)
 · refine aZ ?_
   refine an ⟨by (first|omega|(have:=nE (aa s i);simp only [nC,oi,oj,nD,List.length_cons,List.length_nil];omega)),by (first|omega|(have:=nE (aa s i);simp only [nC,oi,oj,nD,List.length_cons,List.length_nil];omega))⟩ ?_
   refine cx [0,3,4,5] 20 ((((aa s i).toNat:Int)==34)||(((aa s i).toNat:Int)==92)) ?_ ?_
   · repeat' first
      |exact ⟨⟨_,rfl,by grind [bM.val]⟩,rfl⟩
      |refine an (fun _=>?_) (fun _=>?_)
   refine an (fun J=>?_) (fun J=>?_)
   · replace J:(((aa s i).toNat:Int)=34)∨(((aa s i).toNat:Int)=92):=((da J).imp (fun q=>(eq_of_beq q)) (fun q=>(eq_of_beq q)))
     refine pP (xs:=([92,aa s i]:List UInt8)) ?_
     refine an (by (first|omega|(simp only [List.length_append,List.length_cons,List.length_nil];omega))) ?_
     refine an (by omega) ?_
     refine ⟨(b++([92,aa s i]:List UInt8),i+1),⟨rfl,rfl⟩,?_,?_⟩
     · try dsimp only
       have e:ir (aa s i)=[92,aa s i]:=by rw [ir,if_pos (by assumption)]
       exact ⟨by omega,by omega,by rw [vT aM.1 I,e,aM.2.2]⟩
     try dsimp only
     omega
   replace J:(((aa s i).toNat:Int)≠34)∧(((aa s i).toNat:Int)≠92):=⟨(ne_of_beq_false (bZ J)),(ne_of_beq_false (c8 J))⟩
   refine cx [0,3,4,5] 31 ((decide (32≤((aa s i).toNat:Int)))&&(decide (((aa s i).toNat:Int)≤126))) ?_ ?_
   · repeat' first
      |exact ⟨⟨_,rfl,by grind [bM.val]⟩,rfl⟩
      |refine an (fun _=>?_) (fun _=>?_)
   refine an (fun ai=>?_) (fun ai=>?_)
   · replace ai:(32≤((aa s i).toNat:Int))∧(((aa s i).toNat:Int)≤126):=⟨(of_decide_eq_true (e4 ai)),(of_decide_eq_true (fY ai))⟩
     refine pP (xs:=([aa s i]:List UInt8)) ?_
     refine an (by (first|omega|(simp only [List.length_append,List.length_cons,List.length_nil];omega))) ?_
     refine an (by omega) ?_
     refine ⟨(b++([aa s i]:List UInt8),i+1),⟨rfl,rfl⟩,?_,?_⟩
     · try dsimp only
       have e:ir (aa s i)=[aa s i]:=by rw [ir,if_neg (by omega),if_neg (by omega)]
       exact ⟨by omega,by omega,by rw [vT aM.1 I,e,aM.2.2]⟩
     try dsimp only
     omega
   replace ai:(((aa s i).toNat:Int)<32)∨(126<((aa s i).toNat:Int)):=((fZ ai).imp (fun q=>(Int.not_le.1 (of_decide_eq_false q))) (fun q=>(Int.not_le.1 (of_decide_eq_false q))))
   refine an (by omega) ?_
   refine an ⟨by (first|omega|(have:=nE (aa s i);simp only [nC,oi,oj,nD,List.length_cons,List.length_nil];omega)),by (first|omega|(have:=nE (aa s i);simp only [nC,oi,oj,nD,List.length_cons,List.length_nil];omega))⟩ ?_
   refine an (by exact UA _) ?_
   refine an ⟨by (first|omega|(have:=nE (aa s i);simp only [nC,oi,oj,nD,List.length_cons,List.length_nil];omega)),by (first|omega|(have:=nE (aa s i);simp only [nC,oi,oj,nD,List.length_cons,List.length_nil];omega))⟩ ?_
   refine pP (xs:=([92,120,aa ([48,49,50,51,52,53,54,55,56,57,97,98,99,100,101,102]:List UInt8) (IntKind.u8.wrap (Int.tdiv ((aa s i).toNat) 16)),aa ([48,49,50,51,52,53,54,55,56,57,97,98,99,100,101,102]:List UInt8) (Int.tmod ((aa s i).toNat) 16)]:List UInt8)) ?_
   refine an (by (first|omega|(simp only [List.length_append,List.length_cons,List.length_nil];omega))) ?_
   refine an (by omega) ?_
   refine ⟨(b++([92,120,aa ([48,49,50,51,52,53,54,55,56,57,97,98,99,100,101,102]:List UInt8) (IntKind.u8.wrap (Int.tdiv ((aa s i).toNat) 16)),aa ([48,49,50,51,52,53,54,55,56,57,97,98,99,100,101,102]:List UInt8) (Int.tmod ((aa s i).toNat) 16)]:List UInt8),i+1),⟨rfl,rfl⟩,?_,?_⟩
   · try dsimp only
     have e:ir (aa s i)=[92,120,aa tV ((aa s i).toNat/16:Nat),aa tV ((aa s i).toNat%16:Nat)]:=by rw [ir,if_neg (by omega),if_pos (by omega)]
     exact ⟨by omega,by omega,by rw [vT aM.1 I,e,aM.2.2,oj,nD];rfl⟩
   try dsimp only
   omega
 refine an (by (first|omega|(simp only [List.length_append,List.length_cons,List.length_nil];omega))) ?_
 refine an (by (first|omega|(simp only [List.length_append,List.length_cons,List.length_nil];omega))) ?_
 refine bt rfl fun _=>?_
 show K (.str ((([34]:List UInt8)++b)++([34]:List UInt8))) m
 have e:[34]++b++[34]=k5 s:=by rw [aM.2.2,jM (by omega)];rfl
 rw [←e] at U;exact U
end Go.Proofs
end
section
namespace Go.Proofs
open Go Go.bh Go.bS
set_option maxRecDepth 100000
theorem UD {n:Int} (km:-9223372036854775808≤n) (nh:n≤9223372036854775807):IntKind.i64.wrap (Int.tdiv n 10)=Int.tdiv n 10:=by
 rcases Int.le_total 0 n with h|h
 · rw [Int.tdiv_eq_ediv_of_nonneg h];exact wrap64 _ (by omega) (by omega)
 · have e:Int.tdiv n 10=-((-n)/10):=by
    rw [←Int.tdiv_eq_ediv_of_nonneg (by omega:0≤-n),Int.neg_tdiv,Int.neg_neg]
   rw [e];exact wrap64 _ (by omega) (by omega)
theorem Aw (n:Int):(0≤n→Int.tdiv n 10=n/10∧Int.tmod n 10=n%10)∧(n<0→Int.tdiv n 10=-((-n)/10)∧Int.tmod n 10=-((-n)%10)):=by
 refine ⟨fun h=>⟨Int.tdiv_eq_ediv_of_nonneg h,Int.tmod_eq_emod_of_nonneg h⟩,fun h=>⟨?_,?_⟩⟩
 · rw [←Int.tdiv_eq_ediv_of_nonneg (by omega:0≤-n),Int.neg_tdiv,Int.neg_neg]
 · rw [←Int.tmod_eq_emod_of_nonneg (by omega:0≤-n),Int.neg_tmod,Int.neg_neg]
theorem Kn (d:Nat) (h:d<10):jk (48+(d:Int))=UInt8.ofNat (48+d):=by
 apply UInt8.toNat_inj.1
 have e:=CY (48+(d:Int))
 have aI:IntKind.u8.wrap (48+(d:Int))=((48+d:Nat):Int):=by
  have:∀n:Fin 10,IntKind.u8.wrap (48+(n.val:Int))=((48+n.val:Nat):Int):=by decide+kernel
  exact this ⟨d,h⟩
 rw [aI] at e
 rw [UInt8.toNat_ofNat']
 omega
theorem E4 {n:Int} (aq:0≤n) (h:n<10):Lib.itoa n=[jk (48+n)]:=by
 obtain ⟨d,rfl⟩:=Int.eq_ofNat_of_zero_le aq
 rw [Lib.itoa,if_neg (by omega),show ((d:Int)).toNat=d from rfl,Lib.decDigits_one (by omega),Kn d (by omega)]
theorem E5 {n:Int} (h:10≤n):Lib.itoa n=Lib.itoa (n/10)++[jk (48+n%10)]:=by
 obtain ⟨d,rfl⟩:=Int.eq_ofNat_of_zero_le (by omega:0≤n)
 rw [Lib.itoa,if_neg (by omega),Lib.itoa,if_neg (by omega),show ((d:Int)).toNat=d from rfl,Lib.decDigits,dif_neg (by omega),show (((d:Int)/10)).toNat=d/10 by omega]
 have:(d:Int)%10=((d%10:Nat):Int):=by omega
 rw [this,Kn _ (Nat.mod_lt _ (by omega))]
theorem Ko (u:Nat):Lib.decDigits u≠[]:=by
 rw [Lib.decDigits];split<;>simp
theorem Kp {n:Int} (aq:0≤n):Lib.itoa n=[48]↔n=0:=by
 obtain ⟨d,rfl⟩:=Int.eq_ofNat_of_zero_le aq
 rw [Lib.itoa,if_neg (by omega),show ((d:Int)).toNat=d from rfl]
 constructor
 · intro h
   rw [Lib.decDigits] at h
   split at h
   · rename_i aY
     have:=congrArg UInt8.toNat (List.cons.inj h).1
     rw [UInt8.toNat_ofNat'] at this
     have e:(48:UInt8).toNat=48:=rfl
     omega
   · have:=congrArg List.length h
     have J:=List.length_pos_iff.2 (Ko (d/10))
     rw [List.length_append] at this
     simp only [List.length_cons,List.length_nil] at this
     omega
 · intro h
   have:d=0:=by omega
   subst this
   rw [Lib.decDigits_one (by omega)];rfl
theorem itoa_neg {n:Int} (h:n<0):Lib.itoa n=[45]++(if-(Int.tdiv n 10)=0 then [] else Lib.itoa (-(Int.tdiv n 10)))++[jk (48- Int.tmod n 10)]:=by
 have e:=(Aw n).2 h
 rw [e.1,e.2,Int.neg_neg,Int.sub_neg]
 have ax:Lib.itoa n=45::Lib.itoa (-n):=by
  rw [Lib.itoa,if_pos h,Lib.itoa,if_neg (by omega)]
  congr 1;congr 1;omega
 rw [ax]
 by_cases al:-n<10
 · rw [if_pos (by omega),E4 (by omega) al,show (-n)%10=-n by omega];rfl
 · rw [if_neg (by omega),E5 (by omega)];rfl
theorem Be:∀(k u:Nat),u<10^(k+1)→(Lib.decDigits u).length≤k+1
 |k,u,h=>by
  rw [Lib.decDigits]
  split
  · simp
  · rename_i hu
    match k with
    |0=>simp at h;omega
    |k+1=>
     have:=Be k (u/10) (by rw [Nat.pow_succ] at h;omega)
     simp;omega
theorem nF {n:Int} (km:-9223372036854775808≤n) (nh:n≤9223372036854775807):(Lib.itoa n).length≤20:=by
 rw [Lib.itoa]
 split
 · have:=Be 18 n.natAbs (by have:(10:Nat)^19=10000000000000000000:=by decide
                            omega)
   simp;omega
 · have:=Be 18 n.toNat (by have:(10:Nat)^19=10000000000000000000:=by decide
                           omega)
   omega
set_option maxHeartbeats 1000000 in
theorem UE (n:Int) (km:-9223372036854775808≤n) (nh:n≤9223372036854775807) (aQ:∀q:Int,q.natAbs<n.natAbs→-9223372036854775808≤q→q≤9223372036854775807→∀(m:ad) (K:R→ad→Prop),K (.str (Lib.itoa q)) m→bn Tryz.prog 93 [.int .i64 q] m K) (m:ad) (K:R→ad→Prop) (U:K (.str (Lib.itoa n)) m):bn Tryz.prog 93 [.int .i64 n] m K:=by
 have hw:=UD km nh
 have aY:=Aw n
 have mo:(Lib.itoa (-(IntKind.i64.wrap (Int.tdiv n 10)))).length≤20:=nF (by simp only [hw];omega) (by simp only [hw];omega)
 have lL:(Lib.itoa (IntKind.i64.wrap (Int.tdiv n 10))).length≤20:=nF (by simp only [hw];omega) (by simp only [hw];omega)
 refine enter (c:=cP [] [] [] [] [] []) (vs:=[.aK (.int .i64 n)]) (L:=[]) (m:=m) false cc Tryz.mixed Tryz.func93 rfl (k:=1) (by show cJ [] _ _ _=true;decide+kernel) rfl (Good.nil m) ?_
 refine aZ ?_
 refine an (fun I=>?_) (fun I=>?_)
 · refine an (by omega) ?_
   refine an (by (first|omega|(simp only [hw];omega))) ?_
   refine ct (fun _=>aQ (-(IntKind.i64.wrap (Int.tdiv n 10))) (by simp only [hw];omega) (by simp only [hw];omega) (by simp only [hw];omega)) rfl ?_
   refine aZ ?_
   refine an (fun J=>?_) (fun J=>?_)
   · refine an (by (first|omega|(simp only [List.length_append,List.length_cons,List.length_nil];omega))) ?_
     refine an (by exact ⟨by omega,by show (-9223372036854775808:Int)≤_;omega,by show _≤(9223372036854775807:Int);omega⟩) ?_
     refine an (by (first|omega|(simp only [hw];omega))) ?_
     refine pP (xs:=([(jk (48- (Int.tmod n 10)))]:List UInt8)) ?_
     refine an (by (first|omega|(simp only [List.length_append,List.length_cons,List.length_nil];omega))) ?_
     refine bt rfl fun _=>e9 U ?_
     show R.str (Lib.itoa n)=R.str ((([45]:List UInt8)++([]))++([(jk (48- (Int.tmod n 10)))]:List UInt8))
     refine congrArg R.str ?_
     rw [itoa_neg I,if_pos (by have:=(Kp (by simp only [hw];omega)).1 J;rw [hw] at this;exact this)]
   refine an (by (first|omega|(simp only [List.length_append,List.length_cons,List.length_nil];omega))) ?_
   refine an (by exact ⟨by omega,by show (-9223372036854775808:Int)≤_;omega,by show _≤(9223372036854775807:Int);omega⟩) ?_
   refine an (by (first|omega|(simp only [hw];omega))) ?_
   refine pP (xs:=([(jk (48- (Int.tmod n 10)))]:List UInt8)) ?_
   refine an (by (first|omega|(simp only [List.length_append,List.length_cons,List.length_nil];omega))) ?_
   refine bt rfl fun _=>e9 U ?_
   show R.str (Lib.itoa n)=R.str ((([45]:List UInt8)++(Lib.itoa (-(IntKind.i64.wrap (Int.tdiv n 10)))))++([(jk (48- (Int.tmod n 10)))]:List UInt8))
   refine congrArg R.str ?_
   rw [itoa_neg I,if_neg (fun ba=>J ((Kp (by simp only [hw];omega)).2 (by rw [hw];exact ba))),hw]
 refine aZ ?_
 refine an (fun ai=>?_) (fun ai=>?_)
 · refine an (by (first|omega|(simp only [hw];omega))) ?_
   refine pP (xs:=([(jk (48+n))]:List UInt8)) ?_
   refine bt rfl fun _=>e9 U ?_
   show R.str (Lib.itoa n)=R.str ([(jk (48+n))]:List UInt8)
   refine congrArg R.str ?_
   rw [E4 (by omega) (by omega)]
 refine an (by omega) ?_
 refine hx (fun _=>aQ (IntKind.i64.wrap (Int.tdiv n 10)) (by simp only [hw];omega) (by simp only [hw];omega) (by simp only [hw];omega)) ?_
 refine an (by exact ⟨by omega,by show (-9223372036854775808:Int)≤_;omega,by show _≤(9223372036854775807:Int);omega⟩) ?_
 refine an (by (first|omega|(simp only [hw];omega))) ?_
 refine pP (xs:=([(jk (48+(Int.tmod n 10)))]:List UInt8)) ?_
 refine an (by (first|omega|(simp only [List.length_append,List.length_cons,List.length_nil];omega))) ?_
 refine bt rfl fun _=>e9 U ?_
 show R.str (Lib.itoa n)=R.str ((Lib.itoa (IntKind.i64.wrap (Int.tdiv n 10)))++([(jk (48+(Int.tmod n 10)))]:List UInt8))
 refine congrArg R.str ?_
 rw [E5 (by omega),hw,(aY.1 (by omega)).1,(aY.1 (by omega)).2]
theorem Kq:∀(k:Nat) (n:Int),n.natAbs<k→-9223372036854775808≤n→n≤9223372036854775807→∀(m:ad) (K:R→ad→Prop),K (.str (Lib.itoa n)) m→bn Tryz.prog 93 [.int .i64 n] m K
 |0,_,h=>absurd h (Nat.not_lt_zero _)
 |k+1,n,h=>fun I J m K U=>UE n I J (fun q aO a b=>Kq k q (by omega) a b) m K U
theorem Bf (n:Int) (I:-9223372036854775808≤n) (J:n≤9223372036854775807) (m:ad) (K:R→ad→Prop) (U:K (.str (Lib.itoa n)) m):bn Tryz.prog 93 [.int .i64 n] m K:=Kq (n.natAbs+1) n (Nat.lt_succ_self _) I J m K U
def cY (m:ad):Prop:=∃e z aI z2 tp p,m 1=some (yq e z .u64 Lib.pow10Tab)∧m 2=some (.lb aI z2 #[.iface tp p])
theorem cY.up {m az:ad} (ao:∀b o,m b=some o→az b=some o):cY m→cY az:=fun ⟨e,z,aI,z2,tp,p,h,J⟩=>⟨e,z,aI,z2,tp,p,ao _ _ h,ao _ _ J⟩
theorem Kr:Tryz.prog.globalNamed "internal/strconv.uint64pow10"=some 1:=by kernel_rfl
theorem Bg (n:Int) (I:-9223372036854775808≤n) (J:n≤9223372036854775807) (m:ad) (aJ:cY m) (K:R→ad→Prop) (U:K (.str (Lib.itoa n)) m):bn Tryz.prog 86 [.int .i64 n] m K:=
 have ⟨_,_,_,_,_,_,aJ,_⟩:=aJ
 SE ⟨_,Tryz.func86,rfl,by kernel_rfl⟩ Kr Tryz.strconv_Itoa aJ (by have:=nF I J;omega) U
theorem Ks (m:ad) (b:Nat) (o dn:ed):(m.aX [(b,o)]).bL b (some dn)=m.aX [(b,dn)]:=by
 funext c;simp only [ad.aX,ad.bL];split<;>rfl
theorem Kt (m:ad) (b:Nat) (o:ed):m.aX [(b,o)] b=some o:=by simp [ad.aX,ad.bL]
theorem mu (b:Nat) (l s:ak) (h:l.length+s.length≤140737488355328) (m:ad) (K:R→ad→Prop) (U:K (.tuple [.int .i64 s.length, .nilIface]) (m.aX [(b, .en 112 5 ((l++s).map cB))])):
 bn Tryz.prog 80 [.ptr ⟨b,0,none⟩, .str s] (m.aX [(b, .en 112 5 (l.map cB))]) K:=
 St ⟨_,Tryz.func80,rfl,by kernel_rfl⟩ Tryz.underlying110 Tryz.underlying9 (by kernel_rfl) (by kernel_rfl) (by kernel_rfl) Tryz.TO (Kt m b _) h (by rw [Ks];exact U)
theorem Ku (b:Nat) (l:ak) (m:ad) (K:R→ad→Prop) (U:K (.str l) (m.aX [(b, .cells [.aP, .aP])])):
 bn Tryz.prog 58 [.ptr ⟨b,0,none⟩] (m.aX [(b, .en 112 5 (l.map cB))]) K:=
 SA ⟨_,Tryz.func58,rfl,by kernel_rfl⟩ Tryz.TP Tryz.TT (Kt m b _) (by rw [Ks];exact U)
end Go.Proofs
end
section
namespace Go.Proofs
open Go Go.bh Go.bS
set_option maxRecDepth 100000
theorem Bh:∃i,Tryz.prog.info? 112=some i∧i.zero=some (.agg #[.pointer none, .slice none 0 0]):=⟨_,rfl,rfl⟩
def lT (b:Bool):ak:=if b=true then [116,114,117,101] else [102,97,108,115,101]
def dG {α:Type} (g:α→ak):List α→Bool→ak
 |[],_=>[]
 |x::r,first=>(if first=true then [] else [44,32])++g x++dG g r false
def cC:Nat→aR→ak
 |0,_=>[]
 |k+1,v=>
  if v.kind=0 then [110,117,108,108]
  else if v.kind=1 then Lib.itoa v.n
  else if v.kind=2 then k5 v.s
  else if v.kind=3 then lT (v.n==1)
  else if v.kind=4 then [91]++dG (cC k) v.l true++[93]
  else if v.kind=5 then [123]++dG (fun p:ak×aR=>p.1++[58,32]++cC k p.2) v.f true++[125]
  else [110,117,108,108]
theorem mV (k:Nat) (v:aR):cC (k+1) v=
 if v.kind=0 then [110,117,108,108]
 else if v.kind=1 then Lib.itoa v.n
 else if v.kind=2 then k5 v.s
 else if v.kind=3 then lT (v.n==1)
 else if v.kind=4 then [91]++dG (cC k) v.l true++[93]
 else if v.kind=5 then [123]++dG (fun p:ak×aR=>p.1++[58,32]++cC k p.2) v.f true++[125]
 else [110,117,108,108]:=by rw [cC]
theorem Kv {α:Type} [Inhabited α] {g:α→ak} {l:List α} {i:Int} (aq:0≤i) (ab:i<l.length):dG g (l.drop i.toNat) (i==0)=(if (i==0)=true then [] else [44,32])++g (aa l i)++dG g (l.drop (i+1).toNat) (i+1==0):=by
 have e:(i+1==0)=false:=by simp;omega
 rw [lQ aq ab,dG,e]
theorem Bi {α:Type} [Inhabited α] {g:α→ak} {l:List α} {i:Int} (aq:0≤i) (ab:i<l.length) (aA:i≤0):dG g (l.drop i.toNat) (i==0)=g (aa l i)++dG g (l.drop (i+1).toNat) (i+1==0):=by
 rw [Kv aq ab,if_pos (by simp;omega)];rfl
theorem Bj {α:Type} [Inhabited α] {g:α→ak} {l:List α} {i:Int} (aq:0≤i) (ab:i<l.length) (aA:0<i):dG g (l.drop i.toNat) (i==0)=[44,32]++g (aa l i)++dG g (l.drop (i+1).toNat) (i+1==0):=by
 rw [Kv aq ab,if_neg (by simp;omega)]
theorem Bk {α:Type} {g:α→ak} {l:List α} {i:Int} {b:Bool} (ab:(l.length:Int)≤i):dG g (l.drop i.toNat) b=[]:=by
 rw [List.drop_eq_nil_of_le (by omega)];rfl
attribute [irreducible] dG cC
theorem Bl {k:Nat} {v:aR} (h:cL (k+1) v=true):eD v=true∧(∀x∈v.l,cL k x=true)∧∀p∈v.f,cL k p.2=true:=by
 rw [cL,Bool.and_eq_true,Bool.and_eq_true] at h
 exact ⟨h.1.1,List.all_eq_true.1 h.1.2,fun p aB=>List.all_eq_true.1 h.2 p aB⟩
theorem yK {v:aR} (h:eD v=true) (aj:v.kind=1):-1000000000≤v.n∧v.n≤1000000000:=by
 rw [eD,if_neg (by omega),if_pos aj] at h
 simp only [Bool.and_eq_true,decide_eq_true_eq] at h
 exact h.1.1
theorem E6 {v:aR} (h:eD v=true) (aj:v.kind=2):(v.s.length:Int)≤40:=by
 rw [eD,if_neg (by omega),if_neg (by omega),if_pos aj] at h
 simp only [Bool.and_eq_true,decide_eq_true_eq] at h
 exact h.1.2
theorem E7 {v:aR} (h:eD v=true):¬(v.kind≠0∧v.kind≠1∧v.kind≠2∧v.kind≠3∧v.kind≠4∧v.kind≠5):=fun ⟨aq,I,J,ai,aC,aN⟩=>by
 rw [eD,if_neg aq,if_neg I,if_neg J,if_neg ai,if_neg aC,if_neg aN] at h
 cases h
theorem UF (b:Bool) (m:ad) (K:R→ad→Prop) (U:K (.str (lT b)) m):bn Tryz.prog 217 [.bool b] m K:=by
 refine enter (c:=cP [] [] [] [] [] []) (vs:=[.b (.raw b)]) (L:=[]) (m:=m) false cc Tryz.mixed Tryz.func217 rfl (k:=1) (by show cJ [] _ _ _=true;decide+kernel) rfl (Good.nil m) ?_
 refine aZ ?_
 refine an (fun I=>?_) (fun I=>?_)
 · refine bt rfl fun _=>e9 U ?_
   show R.str (lT b)=R.str ([116,114,117,101]:List UInt8)
   refine congrArg R.str ?_
   rw [lT,if_pos I]
 refine bt rfl fun _=>e9 U ?_
 show R.str (lT b)=R.str ([102,97,108,115,101]:List UInt8)
 refine congrArg R.str ?_
 rw [lT,if_neg (by simp [I])]
theorem UG (b:Bool) (m:ad) (K:R→ad→Prop) (U:K (.str (lT b)) m):bn Tryz.prog 197 [.bool b] m K:=by
 refine enter (c:=cP [] [] [] [] [] []) (vs:=[.b (.raw b)]) (L:=[]) (m:=m) false cc Tryz.mixed Tryz.func197 rfl (k:=1) (by show cJ [] _ _ _=true;decide+kernel) rfl (Good.nil m) ?_
 refine ct (fun _=>UF (b)) rfl ?_
 exact bt rfl fun _=>U
set_option maxHeartbeats 2000000 in
theorem UH (k:Nat) (v:aR) (base:ak) (b:Nat) (aQ:∀(w:aR) (base:ak),bq w<k→cL k w=true→base.length+(cC k w).length≤140737488355328→∀(b:Nat) (m:ad),fx [b] m→cY m→∀(K:R→ad→Prop),K (.tuple []) (ad.aX m [(b, .en 112 5 ((base++cC k w).map cB))])→bn Tryz.prog 148 [.ptr ⟨b,0,none⟩,cG w] (ad.aX m [(b, .en 112 5 (base.map cB))]) K) (aY:bq v<k+1) (vN:cL (k+1) v=true) (eh:base.length+(cC (k+1) v).length≤140737488355328) (m:ad) (gd:fx [b] m) (K:R→ad→Prop) (aJ:cY m) (U:K (.tuple []) (ad.aX m [(b, .en 112 5 ((base++cC (k+1) v).map cB))])):bn Tryz.prog 148 [.ptr ⟨b,0,none⟩,cG v] (ad.aX m [(b, .en 112 5 (base.map cB))]) K:=by
 obtain ⟨l5,mG,pJ⟩:=Bl vN
 refine enter (c:=cP [] [0] [] [] [] [b]) (vs:=[.loc 0 0, .aK (cG v)]) (L:=[.obj (.en 112 5 (base.map cB))]) (m:=m) false cc Tryz.mixed Tryz.func148 rfl (k:=2) (by show cJ [] _ _ _=true;decide+kernel) rfl (gd.jq rfl) ?_
 refine ⟨fun c6=>?_⟩
 have J5:v.s.length≤140737488355328:=(c6 1 2 (Nat.le_of_ble_eq_true rfl))
 have J6:v.l.length≤140737488355328:=gj (c6 1 3 (Nat.le_of_ble_eq_true rfl))
 have J7:v.f.length≤140737488355328:=gj (c6 1 4 (Nat.le_of_ble_eq_true rfl))
 refine an (fun I=>?_) (fun I=>?_)
 · have e:cC (k+1) v=[110,117,108,108]:=by rw [mV,if_pos I]
   rw [e] at eh U
   try simp only [List.length_append,List.length_cons,List.length_nil] at eh
   refine fE [0] [.obj (.en 112 5 ((base++([110,117,108,108]:List UInt8)).map cB))] (.aK (.tuple [.int .i64 (([110,117,108,108]:List UInt8).length:Int), .nilIface])) rfl (fun bs az gd=>mu (bs.getD 0 0) base ([110,117,108,108]:List UInt8) (by first|omega|(simp only [List.length_append,List.length_cons,List.length_nil];omega)) az) ?_
   refine rt rfl fun _=>?_
   show K (.tuple []) (ad.aX m [(b, .en 112 5 ((base++([110,117,108,108]:List UInt8)).map cB))])
   exact U
 refine an (fun J=>?_) (fun J=>?_)
 · have e:cC (k+1) v=Lib.itoa v.n:=by rw [mV,if_neg I,if_pos J]
   rw [e] at eh U
   try simp only [List.length_append,List.length_cons,List.length_nil] at eh
   refine fQ [] [] (bf (Lib.itoa v.n)) rfl (fun bs az gd ao=>Bg v.n (by have:=yK l5 (by assumption);omega) (by have:=yK l5 (by assumption);omega) az (cY.up ao aJ)) ?_
   refine fE [0] [.obj (.en 112 5 ((base++(Lib.itoa v.n)).map cB))] (.aK (.tuple [.int .i64 ((Lib.itoa v.n).length:Int), .nilIface])) rfl (fun bs az gd=>mu (bs.getD 0 0) base (Lib.itoa v.n) (by first|omega|(simp only [List.length_append,List.length_cons,List.length_nil];omega)) az) ?_
   refine rt rfl fun _=>?_
   show K (.tuple []) (ad.aX m [(b, .en 112 5 ((base++(Lib.itoa v.n)).map cB))])
   exact U
 refine an (fun ai=>?_) (fun ai=>?_)
 · have e:cC (k+1) v=k5 v.s:=by rw [mV,if_neg I,if_neg J,if_pos ai]
   rw [e] at eh U
   try simp only [List.length_append,List.length_cons,List.length_nil] at eh
   refine ct (fun _=>UB v.s (by have:=E6 l5 (by assumption);omega)) rfl ?_
   refine fE [0] [.obj (.en 112 5 ((base++(k5 v.s)).map cB))] (.aK (.tuple [.int .i64 ((k5 v.s).length:Int), .nilIface])) rfl (fun bs az gd=>mu (bs.getD 0 0) base (k5 v.s) (by first|omega|(simp only [List.length_append,List.length_cons,List.length_nil];omega)) az) ?_
   refine rt rfl fun _=>?_
   show K (.tuple []) (ad.aX m [(b, .en 112 5 ((base++(k5 v.s)).map cB))])
   exact U
 refine an (fun aC=>?_) (fun aC=>?_)
 · have e:cC (k+1) v=lT (v.n==1):=by rw [mV,if_neg I,if_neg J,if_neg ai,if_pos aC]
   rw [e] at eh U
   try simp only [List.length_append,List.length_cons,List.length_nil] at eh
   refine ct (fun _=>UG ((v.n==1))) rfl ?_
   refine fE [0] [.obj (.en 112 5 ((base++(lT ((v.n==1)))).map cB))] (.aK (.tuple [.int .i64 ((lT ((v.n==1))).length:Int), .nilIface])) rfl (fun bs az gd=>mu (bs.getD 0 0) base (lT ((v.n==1))) (by first|omega|(simp only [List.length_append,List.length_cons,List.length_nil];omega)) az) ?_
   refine rt rfl fun _=>?_
   show K (.tuple []) (ad.aX m [(b, .en 112 5 ((base++(lT ((v.n==1)))).map cB))])
   exact U
 refine an (fun aN=>?_) (fun aN=>?_)
 · have e:cC (k+1) v=[91]++dG (cC k) v.l true++[93]:=by rw [mV,if_neg I,if_neg J,if_neg ai,if_neg aC,if_pos aN]
   rw [e] at eh U
   try simp only [List.length_append,List.length_cons,List.length_nil] at eh
   refine fE [0] [.obj (.en 112 5 ((base++([91]:List UInt8)).map cB))] (.aK (.tuple [.int .i64 (([91]:List UInt8).length:Int), .nilIface])) rfl (fun bs az gd=>mu (bs.getD 0 0) base ([91]:List UInt8) (by first|omega|(simp only [List.length_append,List.length_cons,List.length_nil];omega)) az) ?_
   refine aZ ?_
   refine dq ?_
   refine ev (σ:=Int×ak) [] [0,41,42,43] 2 (fun ⟨i,fS⟩=>([(0, .loc 0 0),(41,bj (v.l.map cm)),(42,aw (v.l.length:Int)),(43,aw i)],[.obj (.en 112 5 (fS.map cB)), .cells [aw v.kind,aw v.n,bf v.s,bj (v.l.map cm),bj (v.f.map bB)]],m)) (fun ⟨i,fS⟩=>0≤i∧i≤v.l.length∧base++[91]++dG (cC k) v.l true=fS++dG (cC k) (v.l.drop i.toNat) (i==0)) (fun ⟨i,fS⟩=>v.l.length- i.toNat) (0,base++([91]:List UInt8)) ⟨rfl,rfl⟩ ?_ ?_
   · try dsimp only
     exact ⟨by omega,by omega,rfl⟩
   rintro ⟨i,fS⟩ aM
   dsimp only at aM
   have ay:=congrArg List.length aM.2.2
   simp only [List.length_append,List.length_cons,List.length_nil] at ay
   refine aZ ?_
   refine an (fun bE=>?_) (fun bE=>?_)
   · refine aZ ?_
     refine e0 cG jN (by omega) ?_
     refine aZ ?_
     refine an (fun dk=>?_) (fun dk=>?_)
     · have bW:=Bj (g:=cC k) aM.1 bE dk
       have gH:=congrArg List.length bW
       simp only [List.length_append,List.length_cons,List.length_nil] at gH
       refine fE [0] [.obj (.en 112 5 ((fS++([44,32]:List UInt8)).map cB))] (.aK (.tuple [.int .i64 (([44,32]:List UInt8).length:Int), .nilIface])) rfl (fun bs az gd=>mu (bs.getD 0 0) fS ([44,32]:List UInt8) (by first|omega|(simp only [List.length_append,List.length_cons,List.length_nil];omega)) az) ?_
       refine fQ [0] [.obj (.en 112 5 (((fS++([44,32]:List UInt8))++cC k (aa v.l i)).map cB))] (.ez []) rfl (fun bs az gd ao=>aQ (aa v.l i) (fS++([44,32]:List UInt8)) (by have:=fR v;first|(have:=gP (ch (l:=v.l) (i:=i) aM.1 (by assumption));omega)|(have:=gQ (ch (l:=v.f) (i:=i2) aM.1 (by assumption));omega)) (by first|exact pJ _ (ch (l:=v.f) (i:=i2) aM.1 (by assumption))|exact mG _ (ch (l:=v.l) (i:=i) aM.1 (by assumption))) (by first|omega|(simp only [List.length_append,List.length_cons,List.length_nil];omega)) (bs.getD 0 0) az gd (cY.up ao aJ)) ?_
       refine an (by omega) ?_
       refine ⟨(i+1,(fS++([44,32]:List UInt8))++cC k (aa v.l i)),⟨rfl,rfl⟩,?_,?_⟩
       · try dsimp only
         exact ⟨by omega,by omega,by rw [aM.2.2,bW];simp only [List.append_assoc,List.nil_append]⟩
       try dsimp only
       omega
     have bW:=Bi (g:=cC k) aM.1 bE dk
     have gH:=congrArg List.length bW
     simp only [List.length_append,List.length_cons,List.length_nil] at gH
     refine fQ [0] [.obj (.en 112 5 ((fS++cC k (aa v.l i)).map cB))] (.ez []) rfl (fun bs az gd ao=>aQ (aa v.l i) fS (by have:=fR v;first|(have:=gP (ch (l:=v.l) (i:=i) aM.1 (by assumption));omega)|(have:=gQ (ch (l:=v.f) (i:=i2) aM.1 (by assumption));omega)) (by first|exact pJ _ (ch (l:=v.f) (i:=i2) aM.1 (by assumption))|exact mG _ (ch (l:=v.l) (i:=i) aM.1 (by assumption))) (by first|omega|(simp only [List.length_append,List.length_cons,List.length_nil];omega)) (bs.getD 0 0) az gd (cY.up ao aJ)) ?_
     refine an (by omega) ?_
     refine ⟨(i+1,fS++cC k (aa v.l i)),⟨rfl,rfl⟩,?_,?_⟩
     · try dsimp only
       exact ⟨by omega,by omega,by rw [aM.2.2,bW];simp only [List.append_assoc,List.nil_append]⟩
     try dsimp only
     omega
   refine fE [0] [.obj (.en 112 5 ((fS++([93]:List UInt8)).map cB))] (.aK (.tuple [.int .i64 (([93]:List UInt8).length:Int), .nilIface])) rfl (fun bs az gd=>mu (bs.getD 0 0) fS ([93]:List UInt8) (by first|omega|(simp only [List.length_append,List.length_cons,List.length_nil];omega)) az) ?_
   refine rt rfl fun _=>?_
   show K (.tuple []) (ad.aX m [(b, .en 112 5 ((fS++([93]:List UInt8)).map cB))])
   have aI:base++([91]++dG (cC k) v.l true++[93])=fS++[93]:=by
    have:=aM.2.2
    rw [Bk (by omega),List.append_nil] at this
    rw [←this];simp only [List.append_assoc]
   rw [aI] at U;exact U
 refine an (fun cW=>?_) (fun cW=>?_)
 · have e:cC (k+1) v=[123]++dG (fun p:ak×aR=>p.1++[58,32]++cC k p.2) v.f true++[125]:=by rw [mV,if_neg I,if_neg J,if_neg ai,if_neg aC,if_neg aN,if_pos cW]
   rw [e] at eh U
   try simp only [List.length_append,List.length_cons,List.length_nil] at eh
   refine fE [0] [.obj (.en 112 5 ((base++([123]:List UInt8)).map cB))] (.aK (.tuple [.int .i64 (([123]:List UInt8).length:Int), .nilIface])) rfl (fun bs az gd=>mu (bs.getD 0 0) base ([123]:List UInt8) (by first|omega|(simp only [List.length_append,List.length_cons,List.length_nil];omega)) az) ?_
   refine aZ ?_
   refine dq ?_
   refine ev (σ:=Int×ak) [] [0,63,64,65] 2 (fun ⟨i2,fS⟩=>([(0, .loc 0 0),(63,bj (v.f.map bB)),(64,aw (v.f.length:Int)),(65,aw i2)],[.obj (.en 112 5 (fS.map cB)), .cells [aw v.kind,aw v.n,bf v.s,bj (v.l.map cm),bj (v.f.map bB)]],m)) (fun ⟨i2,fS⟩=>0≤i2∧i2≤v.f.length∧base++[123]++dG (fun p:ak×aR=>p.1++[58,32]++cC k p.2) v.f true=fS++dG (fun p:ak×aR=>p.1++[58,32]++cC k p.2) (v.f.drop i2.toNat) (i2==0)) (fun ⟨i2,fS⟩=>v.f.length- i2.toNat) (0,base++([123]:List UInt8)) ⟨rfl,rfl⟩ ?_ ?_
   · try dsimp only
     exact ⟨by omega,by omega,rfl⟩
   rintro ⟨i2,fS⟩ aM
   dsimp only at aM
   have ay:=congrArg List.length aM.2.2
   simp only [List.length_append,List.length_cons,List.length_nil] at ay
   refine aZ ?_
   refine an (fun dB=>?_) (fun dB=>?_)
   · refine aZ ?_
     refine e0 gA fI (by omega) ?_
     refine aZ ?_
     refine an (fun dV=>?_) (fun dV=>?_)
     · have bW:=Bj (g:=fun p:ak×aR=>p.1++[58,32]++cC k p.2) aM.1 dB dV
       have gH:=congrArg List.length bW
       simp only [List.length_append,List.length_cons,List.length_nil] at gH
       refine fE [0] [.obj (.en 112 5 ((fS++([44,32]:List UInt8)).map cB))] (.aK (.tuple [.int .i64 (([44,32]:List UInt8).length:Int), .nilIface])) rfl (fun bs az gd=>mu (bs.getD 0 0) fS ([44,32]:List UInt8) (by first|omega|(simp only [List.length_append,List.length_cons,List.length_nil];omega)) az) ?_
       refine an (by (simp only [List.length_cons,List.length_nil];omega)) ?_
       refine fE [0] [.obj (.en 112 5 (((fS++([44,32]:List UInt8))++(((aa v.f i2).1)++([58,32]:List UInt8))).map cB))] (.aK (.tuple [.int .i64 ((((aa v.f i2).1)++([58,32]:List UInt8)).length:Int), .nilIface])) rfl (fun bs az gd=>mu (bs.getD 0 0) (fS++([44,32]:List UInt8)) (((aa v.f i2).1)++([58,32]:List UInt8)) (by first|omega|(simp only [List.length_append,List.length_cons,List.length_nil];omega)) az) ?_
       refine fQ [0] [.obj (.en 112 5 ((((fS++([44,32]:List UInt8))++(((aa v.f i2).1)++([58,32]:List UInt8)))++cC k ((aa v.f i2).2)).map cB))] (.ez []) rfl (fun bs az gd ao=>aQ ((aa v.f i2).2) ((fS++([44,32]:List UInt8))++(((aa v.f i2).1)++([58,32]:List UInt8))) (by have:=fR v;first|(have:=gP (ch (l:=v.l) (i:=i) aM.1 (by assumption));omega)|(have:=gQ (ch (l:=v.f) (i:=i2) aM.1 (by assumption));omega)) (by first|exact pJ _ (ch (l:=v.f) (i:=i2) aM.1 (by assumption))|exact mG _ (ch (l:=v.l) (i:=i) aM.1 (by assumption))) (by first|omega|(simp only [List.length_append,List.length_cons,List.length_nil];omega)) (bs.getD 0 0) az gd (cY.up ao aJ)) ?_
       refine an (by omega) ?_
       refine ⟨(i2+1,((fS++([44,32]:List UInt8))++(((aa v.f i2).1)++([58,32]:List UInt8)))++cC k ((aa v.f i2).2)),⟨rfl,rfl⟩,?_,?_⟩
       · try dsimp only
         exact ⟨by omega,by omega,by rw [aM.2.2,bW];simp only [List.append_assoc,List.nil_append]⟩
       try dsimp only
       omega
     have bW:=Bi (g:=fun p:ak×aR=>p.1++[58,32]++cC k p.2) aM.1 dB dV
     have gH:=congrArg List.length bW
     simp only [List.length_append,List.length_cons,List.length_nil] at gH
     refine an (by (simp only [List.length_cons,List.length_nil];omega)) ?_
     refine fE [0] [.obj (.en 112 5 ((fS++(((aa v.f i2).1)++([58,32]:List UInt8))).map cB))] (.aK (.tuple [.int .i64 ((((aa v.f i2).1)++([58,32]:List UInt8)).length:Int), .nilIface])) rfl (fun bs az gd=>mu (bs.getD 0 0) fS (((aa v.f i2).1)++([58,32]:List UInt8)) (by first|omega|(simp only [List.length_append,List.length_cons,List.length_nil];omega)) az) ?_
     refine fQ [0] [.obj (.en 112 5 (((fS++(((aa v.f i2).1)++([58,32]:List UInt8)))++cC k ((aa v.f i2).2)).map cB))] (.ez []) rfl (fun bs az gd ao=>aQ ((aa v.f i2).2) (fS++(((aa v.f i2).1)++([58,32]:List UInt8))) (by have:=fR v;first|(have:=gP (ch (l:=v.l) (i:=i) aM.1 (by assumption));omega)|(have:=gQ (ch (l:=v.f) (i:=i2) aM.1 (by assumption));omega)) (by first|exact pJ _ (ch (l:=v.f) (i:=i2) aM.1 (by assumption))|exact mG _ (ch (l:=v.l) (i:=i) aM.1 (by assumption))) (by first|omega|(simp only [List.length_append,List.length_cons,List.length_nil];omega)) (bs.getD 0 0) az gd (cY.up ao aJ)) ?_
     refine an (by omega) ?_
     refine ⟨(i2+1,(fS++(((aa v.f i2).1)++([58,32]:List UInt8)))++cC k ((aa v.f i2).2)),⟨rfl,rfl⟩,?_,?_⟩
     · try dsimp only
       exact ⟨by omega,by omega,by rw [aM.2.2,bW];simp only [List.append_assoc,List.nil_append]⟩
     try dsimp only
     omega
   refine fE [0] [.obj (.en 112 5 ((fS++([125]:List UInt8)).map cB))] (.aK (.tuple [.int .i64 (([125]:List UInt8).length:Int), .nilIface])) rfl (fun bs az gd=>mu (bs.getD 0 0) fS ([125]:List UInt8) (by first|omega|(simp only [List.length_append,List.length_cons,List.length_nil];omega)) az) ?_
   refine rt rfl fun _=>?_
   show K (.tuple []) (ad.aX m [(b, .en 112 5 ((fS++([125]:List UInt8)).map cB))])
   have aI:base++([123]++dG (fun p:ak×aR=>p.1++[58,32]++cC k p.2) v.f true++[125])=fS++[125]:=by
    have:=aM.2.2
    rw [Bk (by omega),List.append_nil] at this
    rw [←this];simp only [List.append_assoc]
   rw [aI] at U;exact U
 exact absurd ⟨I,J,ai,aC,aN,cW⟩ (E7 l5)
end Go.Proofs
end
section
namespace Go.Proofs
open Go Go.bh Go.bS
set_option maxRecDepth 100000
theorem E8 {α:Type} {g:α→ak} {d:α→Nat} {c:Nat}:∀(l:List α) (b:Bool),(∀x∈l,(g x).length+2≤c*d x)→(dG g l b).length≤c*hy d l
 |[],b,_=>by rw [dG];simp
 |x::r,b,h=>by
  have I:=h x (List.mem_cons_self ..)
  have J:=E8 r false fun y aE=>h y (List.mem_cons_of_mem _ aE)
  rw [dG,hy,Nat.mul_add]
  have ai:(if b=true then ([]:ak) else [44,32]).length≤2:=by split<;>simp
  rw [List.length_append,List.length_append]
  omega
theorem Kw:∀(l:List (ak×aR)) (p:Option ak),kF p l=true→∀q∈l,q.1.length≤12
 |[],_,_,q,aO=>by cases aO
 |f::r,p,h,q,aO=>by
  rw [J1,Bool.and_eq_true,Bool.and_eq_true] at h
  rcases List.mem_cons.1 aO with rfl|aO
  · have:=h.1.1
    unfold b1 at this
    simp only [Bool.and_eq_true,decide_eq_true_eq] at this
    omega
  · exact Kw r _ h.2 q aO
theorem E9:∀(k:Nat) (v:aR),cL k v=true→(cC k v).length+20≤200*bq v
 |0,_,h=>by cases h
 |k+1,v,h=>by
  obtain ⟨I,J,ai⟩:=Bl h
  have e:=fR v
  rw [mV]
  split
  · simp;omega
  split
  · rename_i aj
    have:=yK I aj
    have:=nF (n:=v.n) (by omega) (by omega)
    omega
  split
  · rename_i aj
    have:=E6 I aj
    have:=Kl v.s
    simp only [k5,List.length_append,List.length_cons,List.length_nil]
    omega
  split
  · unfold lT;split<;>simp<;>omega
  split
  · have:=E8 (g:=cC k) (d:=bq) (c:=200) v.l true fun x ah=>by have:=E9 k x (J x ah);omega
    rw [A9] at this
    simp only [List.length_append,List.length_cons,List.length_nil]
    omega
  split
  · rename_i Fa qc mK o9 UI aj
    have au:kF none v.f=true:=by
     rw [eD,if_neg Fa,if_neg qc,if_neg mK,if_neg o9,if_neg UI,if_pos aj,Bool.and_eq_true] at I
     exact I.2
    have:=E8 (g:=fun p:ak×aR=>p.1++[58,32]++cC k p.2) (d:=fun p=>bq p.2) (c:=200) v.f true fun x ah=>by
     have:=E9 k x.2 (ai x ah)
     have:=Kw _ _ au x ah
     simp only [List.length_append,List.length_cons,List.length_nil]
     omega
    rw [Ba] at this
    simp only [List.length_append,List.length_cons,List.length_nil]
    omega
  · simp;omega
theorem om {v:aR} (h:bF v=0):cL (bq v+1) v=true∧bq v≤60:=by
 have ag:=h
 unfold bF at ag
 split at ag
 · rename_i c
   refine ⟨EX ag,?_⟩
   have:=sB (bq v+1) 1 v 60 (by omega) c
   omega
 · cases ag
theorem Kx:∀(k:Nat) (v:aR) (base:ak),bq v<k→cL k v=true→base.length+(cC k v).length≤140737488355328→∀(b:Nat) (m:ad),fx [b] m→cY m→∀(K:R→ad→Prop),K (.tuple []) (ad.aX m [(b, .en 112 5 ((base++cC k v).map cB))])→bn Tryz.prog 148 [.ptr ⟨b,0,none⟩,cG v] (ad.aX m [(b, .en 112 5 (base.map cB))]) K
 |0,_,_,h=>absurd h (Nat.not_lt_zero _)
 |k+1,v,base,h=>fun al eh b m gd aJ K U=>UH k v base b (Kx k) h al eh m gd K aJ U
def eJ (v:aR):ak:=cC (bq v+1) v
theorem rn {v:aR} (h:bF v=0):(eJ v).length≤12000:=by
 have:=E9 _ v (om h).1
 have:=(om h).2
 unfold eJ;omega
theorem UJ (v:aR) (m:ad) (K:R→ad→Prop) (aJ:cY m) (U:K (.tuple [.str (if bF v=0 then eJ v else []), .err 115 (bF v)]) m):bn Tryz.prog 81 [cG v] m K:=by
 refine enter (c:=cP [] [] [] [] [] []) (vs:=[.aK (cG v)]) (L:=[]) (m:=m) true cc Tryz.mixed Tryz.func81 rfl (k:=1) (by show cJ [] _ _ _=true;decide+kernel) rfl (Good.nil m) ?_
 refine ct (fun _=>yG v) rfl ?_
 refine aZ ?_
 refine an (fun I=>?_) (fun I=>?_)
 · rw [if_pos I,I] at U
   refine aG (eb:=5) Bh.choose_spec.1 Bh.choose_spec.2 rfl ?_
   refine fQ [1] [.obj (.en 112 5 ((([]:ak)++cC (bq v+1) v).map cB))] (.ez []) rfl (fun bs az gd ao=>Kx (bq v+1) v ([]:ak) (Nat.lt_succ_self _) (om (by assumption)).1 (by have:=rn (v:=v) (by assumption);unfold eJ at this;simp only [List.length_nil];omega) (bs.getD 1 0) az gd (cY.up ao aJ)) ?_
   refine fE [1] [.cells [.aK (.aP), .aK (.aP)]] (bf (([]:ak)++cC (bq v+1) v)) rfl (fun bs az gd=>Ku (bs.getD 1 0) (([]:ak)++cC (bq v+1) v) az) ?_
   refine bt rfl fun _=>?_
   show K (.tuple [.str (([]:ak)++cC (bq v+1) v), .err 115 0]) m
   exact U
 rw [if_neg I] at U
 refine bt rfl fun _=>?_
 show K (.tuple [.str ([]), .err 115 (bF v)]) m
 exact U
end Go.Proofs
end
section
namespace Go.Proofs
open Go Go.bh Go.bS
set_option maxRecDepth 100000
set_option maxHeartbeats 2000000 in
theorem UK (k:Nat) (v:aR) (aQ:∀w:aR,bq w<k→cL k w=true→(cC k w).length≤1000000→∀(m:ad) (K:R→ad→Prop),K (.str (cC k w)) m→bn Tryz.prog 61 [cG w] m K) (aY:bq v<k+1) (vN:cL (k+1) v=true) (eh:(cC (k+1) v).length≤1000000) (m:ad) (K:R→ad→Prop) (U:K (.str (cC (k+1) v)) m):bn Tryz.prog 61 [cG v] m K:=by
 obtain ⟨l5,mG,pJ⟩:=Bl vN
 refine enter (c:=cP [] [0] [] [] [] []) (vs:=[.aK (cG v)]) (L:=[]) (m:=m) false cc Tryz.mixed Tryz.func61 rfl (k:=1) (by show cJ [] _ _ _=true;decide+kernel) rfl (Good.nil m) ?_
 refine ⟨fun c6=>?_⟩
 have rj:v.s.length≤140737488355328:=(c6 0 2 (Nat.le_of_ble_eq_true rfl))
 have pY:v.l.length≤140737488355328:=gj (c6 0 3 (Nat.le_of_ble_eq_true rfl))
 have rk:v.f.length≤140737488355328:=gj (c6 0 4 (Nat.le_of_ble_eq_true rfl))
 refine aZ ?_
 refine an (fun I=>?_) (fun I=>?_)
 · have e:cC (k+1) v=Lib.itoa v.n:=by rw [mV,if_neg (by omega),if_pos I]
   rw [e] at eh U
   try simp only [List.length_append,List.length_cons,List.length_nil] at eh
   refine ct (fun _=>Bf v.n (by have:=yK l5 (by assumption);omega) (by have:=yK l5 (by assumption);omega)) rfl ?_
   exact bt rfl fun _=>U
 refine an (fun J=>?_) (fun J=>?_)
 · have e:cC (k+1) v=k5 v.s:=by rw [mV,if_neg (by omega),if_neg (by omega),if_pos J]
   rw [e] at eh U
   try simp only [List.length_append,List.length_cons,List.length_nil] at eh
   refine ct (fun _=>UC v.s (by have:=E6 l5 (by assumption);omega)) rfl ?_
   exact bt rfl fun _=>U
 refine an (fun ai=>?_) (fun ai=>?_)
 · refine aZ ?_
   refine an (fun aC=>?_) (fun aC=>?_)
   · have e:cC (k+1) v=[116,114,117,101]:=by rw [mV,if_neg (by omega),if_neg (by omega),if_neg (by omega),if_pos ai,lT,if_pos (by simp [aC])]
     rw [e] at eh U
     try simp only [List.length_append,List.length_cons,List.length_nil] at eh
     exact bt rfl fun _=>U
   have e:cC (k+1) v=[102,97,108,115,101]:=by rw [mV,if_neg (by omega),if_neg (by omega),if_neg (by omega),if_pos ai,lT,if_neg (by simp [aC])]
   rw [e] at eh U
   try simp only [List.length_append,List.length_cons,List.length_nil] at eh
   exact bt rfl fun _=>U
 refine an (fun aN=>?_) (fun aN=>?_)
 · have e:cC (k+1) v=[91]++dG (cC k) v.l true++[93]:=by rw [mV,if_neg (by omega),if_neg (by omega),if_neg (by omega),if_neg (by omega),if_pos aN]
   rw [e] at eh U
   try simp only [List.length_append,List.length_cons,List.length_nil] at eh
   refine aZ ?_
   refine ev (σ:=(List UInt8)×Int) [] [1,3,4] 1 (fun ⟨s,i⟩=>([(1, .loc 0 0),(3,bf s),(4,aw i)],[.cells [aw v.kind,aw v.n,bf v.s,bj (v.l.map cm),bj (v.f.map bB)]],m)) (fun ⟨s,i⟩=>0≤i∧i≤v.l.length∧dG (cC k) v.l true=s++dG (cC k) (v.l.drop i.toNat) (i==0)) (fun ⟨s,i⟩=>v.l.length- i.toNat) ([],0) ⟨rfl,rfl⟩ ?_ ?_
   · try dsimp only
     exact ⟨by omega,by omega,rfl⟩
   rintro ⟨s,i⟩ aM
   dsimp only at aM
   have ay:=congrArg List.length aM.2.2
   simp only [List.length_append,List.length_cons,List.length_nil] at ay
   refine aZ ?_
   refine dq ?_
   refine an (fun bE=>?_) (fun bE=>?_)
   · refine aZ ?_
     refine aZ ?_
     refine an (fun dk=>?_) (fun dk=>?_)
     · have bW:=Bj (g:=cC k) aM.1 bE dk
       have gH:=congrArg List.length bW
       simp only [List.length_append,List.length_cons,List.length_nil] at gH
       refine an (by (first|omega|(simp only [List.length_append,List.length_cons,List.length_nil];omega))) ?_
       refine e0 cG jN (by omega) ?_
       refine ct (fun _=>aQ (aa v.l i) (by have:=fR v;first|(have:=gQ (ch (l:=v.f) (i:=i2) aM.1 (by assumption));omega)|(have:=gP (ch (l:=v.l) (i:=i) aM.1 (by assumption));omega)) (by first|exact pJ _ (ch (l:=v.f) (i:=i2) aM.1 (by assumption))|exact mG _ (ch (l:=v.l) (i:=i) aM.1 (by assumption))) (by omega)) rfl ?_
       refine an (by (first|omega|(simp only [List.length_append,List.length_cons,List.length_nil];omega))) ?_
       refine an (by omega) ?_
       refine ⟨((s++([44,32]:List UInt8))++(cC k (aa v.l i)),i+1),⟨rfl,rfl⟩,?_,?_⟩
       · try dsimp only
         exact ⟨by omega,by omega,by rw [aM.2.2,bW];simp only [List.append_assoc,List.nil_append]⟩
       try dsimp only
       omega
     have bW:=Bi (g:=cC k) aM.1 bE dk
     have gH:=congrArg List.length bW
     simp only [List.length_append,List.length_cons,List.length_nil] at gH
     refine e0 cG jN (by omega) ?_
     refine ct (fun _=>aQ (aa v.l i) (by have:=fR v;first|(have:=gQ (ch (l:=v.f) (i:=i2) aM.1 (by assumption));omega)|(have:=gP (ch (l:=v.l) (i:=i) aM.1 (by assumption));omega)) (by first|exact pJ _ (ch (l:=v.f) (i:=i2) aM.1 (by assumption))|exact mG _ (ch (l:=v.l) (i:=i) aM.1 (by assumption))) (by omega)) rfl ?_
     refine an (by (first|omega|(simp only [List.length_append,List.length_cons,List.length_nil];omega))) ?_
     refine an (by omega) ?_
     refine ⟨(s++(cC k (aa v.l i)),i+1),⟨rfl,rfl⟩,?_,?_⟩
     · try dsimp only
       exact ⟨by omega,by omega,by rw [aM.2.2,bW];simp only [List.append_assoc,List.nil_append]⟩
     try dsimp only
     omega
   refine an (by (first|omega|(simp only [List.length_append,List.length_cons,List.length_nil];omega))) ?_
   refine an (by (first|omega|(simp only [List.length_append,List.length_cons,List.length_nil];omega))) ?_
   refine bt rfl fun _=>?_
   show K (.str ((([91]:List UInt8)++s)++([93]:List UInt8))) m
   have aI:[91]++dG (cC k) v.l true++[93]=[91]++s++[93]:=by rw [aM.2.2,Bk (by omega),List.append_nil]
   rw [aI] at U;exact U
 refine an (fun cW=>?_) (fun cW=>?_)
 · have e:cC (k+1) v=[123]++dG (fun p:ak×aR=>p.1++[58,32]++cC k p.2) v.f true++[125]:=by rw [mV,if_neg (by omega),if_neg (by omega),if_neg (by omega),if_neg (by omega),if_neg (by omega),if_pos cW]
   rw [e] at eh U
   try simp only [List.length_append,List.length_cons,List.length_nil] at eh
   refine aZ ?_
   refine ev (σ:=(List UInt8)×Int) [] [1,5,6] 1 (fun ⟨s,i2⟩=>([(1, .loc 0 0),(5,bf s),(6,aw i2)],[.cells [aw v.kind,aw v.n,bf v.s,bj (v.l.map cm),bj (v.f.map bB)]],m)) (fun ⟨s,i2⟩=>0≤i2∧i2≤v.f.length∧dG (fun p:ak×aR=>p.1++[58,32]++cC k p.2) v.f true=s++dG (fun p:ak×aR=>p.1++[58,32]++cC k p.2) (v.f.drop i2.toNat) (i2==0)) (fun ⟨s,i2⟩=>v.f.length- i2.toNat) ([],0) ⟨rfl,rfl⟩ ?_ ?_
   · try dsimp only
     exact ⟨by omega,by omega,rfl⟩
   rintro ⟨s,i2⟩ aM
   dsimp only at aM
   have ay:=congrArg List.length aM.2.2
   simp only [List.length_append,List.length_cons,List.length_nil] at ay
   refine aZ ?_
   refine dq ?_
   refine an (fun dB=>?_) (fun dB=>?_)
   · refine aZ ?_
     refine aZ ?_
     refine an (fun dV=>?_) (fun dV=>?_)
     · have bW:=Bj (g:=fun p:ak×aR=>p.1++[58,32]++cC k p.2) aM.1 dB dV
       have gH:=congrArg List.length bW
       simp only [List.length_append,List.length_cons,List.length_nil] at gH
       refine an (by (first|omega|(simp only [List.length_append,List.length_cons,List.length_nil];omega))) ?_
       refine e0 gA fI (by omega) ?_
       refine an (by (first|omega|(simp only [List.length_append,List.length_cons,List.length_nil];omega))) ?_
       refine an (by (first|omega|(simp only [List.length_append,List.length_cons,List.length_nil];omega))) ?_
       refine e0 gA fI (by omega) ?_
       refine hx (fun _=>aQ ((aa v.f i2).2) (by have:=fR v;first|(have:=gQ (ch (l:=v.f) (i:=i2) aM.1 (by assumption));omega)|(have:=gP (ch (l:=v.l) (i:=i) aM.1 (by assumption));omega)) (by first|exact pJ _ (ch (l:=v.f) (i:=i2) aM.1 (by assumption))|exact mG _ (ch (l:=v.l) (i:=i) aM.1 (by assumption))) (by omega)) ?_
       refine an (by (first|omega|(simp only [List.length_append,List.length_cons,List.length_nil];omega))) ?_
       refine an (by omega) ?_
       refine ⟨((((s++([44,32]:List UInt8))++((aa v.f i2).1))++([58,32]:List UInt8))++(cC k ((aa v.f i2).2)),i2+1),⟨rfl,rfl⟩,?_,?_⟩
       · try dsimp only
         exact ⟨by omega,by omega,by rw [aM.2.2,bW];simp only [List.append_assoc,List.nil_append]⟩
       try dsimp only
       omega
     have bW:=Bi (g:=fun p:ak×aR=>p.1++[58,32]++cC k p.2) aM.1 dB dV
     have gH:=congrArg List.length bW
     simp only [List.length_append,List.length_cons,List.length_nil] at gH
     refine e0 gA fI (by omega) ?_
     refine an (by (first|omega|(simp only [List.length_append,List.length_cons,List.length_nil];omega))) ?_
     refine an (by (first|omega|(simp only [List.length_append,List.length_cons,List.length_nil];omega))) ?_
     refine e0 gA fI (by omega) ?_
     refine hx (fun _=>aQ ((aa v.f i2).2) (by have:=fR v;first|(have:=gQ (ch (l:=v.f) (i:=i2) aM.1 (by assumption));omega)|(have:=gP (ch (l:=v.l) (i:=i) aM.1 (by assumption));omega)) (by first|exact pJ _ (ch (l:=v.f) (i:=i2) aM.1 (by assumption))|exact mG _ (ch (l:=v.l) (i:=i) aM.1 (by assumption))) (by omega)) ?_
     refine an (by (first|omega|(simp only [List.length_append,List.length_cons,List.length_nil];omega))) ?_
     refine an (by omega) ?_
     refine ⟨(((s++((aa v.f i2).1))++([58,32]:List UInt8))++(cC k ((aa v.f i2).2)),i2+1),⟨rfl,rfl⟩,?_,?_⟩
     · try dsimp only
       exact ⟨by omega,by omega,by rw [aM.2.2,bW];simp only [List.append_assoc,List.nil_append]⟩
     try dsimp only
     omega
   refine an (by (first|omega|(simp only [List.length_append,List.length_cons,List.length_nil];omega))) ?_
   refine an (by (first|omega|(simp only [List.length_append,List.length_cons,List.length_nil];omega))) ?_
   refine bt rfl fun _=>?_
   show K (.str ((([123]:List UInt8)++s)++([125]:List UInt8))) m
   have aI:[123]++dG (fun p:ak×aR=>p.1++[58,32]++cC k p.2) v.f true++[125]=[123]++s++[125]:=by rw [aM.2.2,Bk (by omega),List.append_nil]
   rw [aI] at U;exact U
 refine bt rfl fun _=>?_
 show K (.str ([110,117,108,108]:List UInt8)) m
 have Fa:v.kind=0:=Classical.byContradiction fun aq=>E7 l5 ⟨aq,I,J,ai,aN,cW⟩
 have e:cC (k+1) v=[110,117,108,108]:=by rw [mV,if_pos Fa]
 rw [e] at U;exact U
theorem Fb:∀(k:Nat) (v:aR),bq v<k→cL k v=true→(cC k v).length≤1000000→∀(m:ad) (K:R→ad→Prop),K (.str (cC k v)) m→bn Tryz.prog 61 [cG v] m K
 |0,_,h=>absurd h (Nat.not_lt_zero _)
 |k+1,v,h=>fun al eh m K U=>UK k v (Fb k) h al eh m K U
end Go.Proofs
end
section
namespace Go.Proofs
open Go Go.bh
set_option maxRecDepth 100000
theorem UL (e f:Int) (he:0≤e) (m:ad) (K:R→ad→Prop) (U:K (.bool (e==f)) m):bn Tryz.prog 13 [.err 115 e, .int .i64 f] m K:=by
 refine oS Tryz.func13 rfl (by decide) (Nat.le_of_ble_eq_true rfl) ?_
 show b7 _ _ _ _ [(0, .err 115 e),(1, .int .i64 f)] m
 refine mL [] [0,1] (by decide) ?_
 intro aU aV
 refine ⟨trivial,?_⟩
 show aU [(0, .err 115 e),(1, .int .i64 f)] m
 refine aV _ _ ?_;clear aV aU
 refine rJ ?_;intro rp hl
 refine mL [] [0,1,8] (by decide) ?_
 intro aU aV
 refine ⟨trivial,⟨rfl,rfl⟩,?_⟩
 show aU [(0, .err 115 e),(1, .int .i64 f),(8, .bool (e==0))] m
 refine aV _ _ ?_;clear aV aU
 refine uI rfl rfl (fun I=>?_) (fun I=>?_)
 ·
  replace I:e=0:=(eq_of_beq I)
  refine mL [] [4] (by decide) ?_
  intro aU aV
  refine ⟨trivial,trivial,trivial,?_⟩
  show aU [(4, .bool (f==0))] m
  refine aV _ _ ?_;clear aV aU
  refine hU ?_
  refine ⟨trivial,m,fun _ _ h=>h,?_⟩
  show K (.bool (f==0)) m
  refine e9 U (congrArg R.bool ?_)
  rw [Bool.eq_iff_iff];simp;omega
 replace I:e≠0:=(ne_of_beq_false I)
 refine jF ?_
 refine hl _ _ ?_;clear hl
 refine mL [] [1,5,6] (by decide) ?_
 intro aU aV
 refine ⟨trivial,rfl,trivial,(Nat.le_of_ble_eq_true rfl),(Nat.le_of_ble_eq_true rfl),trivial,trivial,?_⟩
 show aU [(1, .int .i64 f),(5, .int .i64 e),(6, .bool (!(e==0)))] m
 refine aV _ _ ?_;clear aV aU
 refine mL [] [4] (by decide) ?_
 intro aU aV
 suffices key:aU [(4, .bool (((!(e==0))&&(decide (0<f)))&&(e==f)))] m by
  refine ⟨trivial,trivial,?_⟩
  show cF _ _ _ _ _ [(17, .bool (!(e==0))),(16, .bool (!(e==0))),(1, .int .i64 f),(5, .int .i64 e),(6, .bool (!(e==0)))] _
  revert key
  cases J:(e==0)
  ·
   replace J:e≠0:=(ne_of_beq_false J)
   intro key
   refine ⟨trivial,trivial,?_⟩
   refine ⟨trivial,?_⟩
   show cF _ _ _ _ _ [(21, .bool (decide (0<f))),(20, .bool (decide (0<f))),(19, .bool (decide (0<f))),(18, .int .i64 f),(17, .bool true),(16, .bool true),(1, .int .i64 f),(5, .int .i64 e),(6, .bool true)] _
   revert key
   cases ai:(decide (0<f))
   ·
    replace ai:f≤0:=(Int.not_lt.1 (of_decide_eq_false ai))
    intro key
    refine ga rfl (ga rfl (ga rfl ?_))
    refine ⟨trivial,?_⟩
    exact key
   ·
    replace ai:0<f:=(of_decide_eq_true ai)
    intro key
    refine ⟨trivial,trivial,trivial,?_⟩
    refine ⟨trivial,?_⟩
    exact key
  ·
   replace J:e=0:=(eq_of_beq J)
   intro key
   refine ga rfl (ga rfl ?_)
   refine ⟨trivial,?_⟩
   refine ga rfl (ga rfl (ga rfl ?_))
   refine ⟨trivial,?_⟩
   exact key
 refine aV _ _ ?_;clear aV aU
 refine hU ?_
 refine ⟨trivial,m,fun _ _ h=>h,?_⟩
 show K (.bool (((!(e==0))&&(decide (0<f)))&&(e==f))) m
 refine e9 U (congrArg R.bool ?_)
 rw [Bool.eq_iff_iff];simp;omega
end Go.Proofs
end
section
namespace Go.Proofs
open Go Go.bh Go.bS
set_option maxRecDepth 100000
theorem Ky {P:Program} {f:FuncId} {fn:Func} {args:List R} {x:R} {m:ad} {K:R→ad→Prop} (aW:P.funcs[f]?=some fn) (ae:fn.body.isSome=true) (CJ:(fn.name== "runtime.NumGoroutine")=false) (U:K x m)
 (h:∀w lim (cargs:Array Value),cargs.size=args.length→(∀i,i<args.length→aF w lim (cargs.getD i undef) (args.getD i .aP) [])→∃v,(Calls P f cargs w fun e w'=>e= .returned v∧w'=w)∧aF w lim v x []):bn P f args m K:=by
 refine ⟨⟨fn,aW,ae,CJ⟩,fun F lim w cargs al au st=>?_⟩
 obtain ⟨v,bc,ah⟩:=h w lim cargs al au
 refine bc.mono fun e w' ⟨he,hw⟩=>?_
 subst hw
 exact ⟨v,x,lim,m,[],he,U,ah,st, .refl _ _ _⟩
theorem Kz {cargs:Array Value} (h:cargs.size=2):cargs=#[cargs.getD 0 undef,cargs.getD 1 undef]:=by
 apply Array.ext (by simp [h])
 intro i ab eH
 have:i=0∨i=1:=by omega
 rcases this with rfl|rfl<;>simp [Array.getD,h]
theorem UM (s p:List UInt8) (m) (K:R→ad→Prop) (U:K (.bool (Lib.hasPrefix s p)) m):bn Tryz.prog 174 [.str s, .str p] m K:=by
 refine Ky Tryz.func174 rfl (by decide) U fun w lim cargs al au=>?_
 rw [Kz al]
 have aq:=au 0 (by simp)
 have I:=au 1 (by simp)
 simp only [List.getD_cons_zero,List.getD_cons_succ] at aq I
 generalize cargs.getD 0 undef=a at aq
 generalize cargs.getD 1 undef=b at I
 cases aq
 cases I
 exact ⟨_,Tryz.strings_HasPrefix _ _ _, .bool _⟩
theorem Bm (l:List UInt8) (c:UInt8):Lib.indexByte l c<l.length∨Lib.indexByte l c=-1:=by
 induction l with
 |nil=>exact .inr rfl
 |cons b l aQ=>
  unfold Lib.indexByte
  split
  · left;simp
  · split
    · exact .inr rfl
    · rename_i I J
      rcases aQ with h|h
      · left;simp;omega
      · simp [h] at J
theorem KA (s:List UInt8) (hlen:s.length≤140737488355328) (c:UInt8) (m) (K:R→ad→Prop) (U:K (.int .i64 (Lib.indexByte s c)) m):bn Tryz.prog 175 [.str s, .int .u8 c.toNat] m K:=by
 refine Ky Tryz.func175 rfl (by decide) U fun w lim cargs al au=>?_
 rw [Kz al]
 have aq:=au 0 (by simp)
 have I:=au 1 (by simp)
 simp only [List.getD_cons_zero,List.getD_cons_succ] at aq I
 generalize cargs.getD 0 undef=a at aq
 generalize cargs.getD 1 undef=b at I
 cases aq
 cases I
 have w4:=Lib.indexByte_ge
 refine ⟨_,Tryz.strings_IndexByte _ _ _,?_⟩
 have ag:(c.toNat:Int).toNat.toUInt8=c:=by simp
 rw [ag]
 refine .int _ _ ?_ ?_
 · have:=Lib.indexByte_ge ‹ByteArray›.data.toList c
   simp [IntKind.min,IntKind.signed,IntKind.bits];omega
 · rcases Bm ‹ByteArray›.data.toList c with h|h
   · simp [IntKind.max,IntKind.signed,IntKind.bits];simp at h hlen;omega
   · rw [h];decide
def lU (c:UInt8):Bool:=decide (97≤(c.toNat:Int))&&decide ((c.toNat:Int)≤122)
def fo (c:UInt8):Bool:=decide (48≤(c.toNat:Int))&&decide ((c.toNat:Int)≤57)
def rq (c:UInt8):Bool:=!((c.toNat:Int)==10)
def runN (f:UInt8→Bool) (s:List UInt8) (a:Nat):Nat:=a+((s.drop a).takeWhile f).length
theorem drop_cons {s:List UInt8} {i:Nat} (h:i<s.length):s.drop i=s.getD i 0::s.drop (i+1):=by
 rw [List.drop_eq_getElem_cons h]
 simp [List.getD_eq_getElem?_getD,h]
theorem UN {f:UInt8→Bool} {s:List UInt8} {i:Nat} (h:i<s.length) (aW:f (s.getD i 0)=true):runN f s i=runN f s (i+1):=by
 simp only [runN,drop_cons h,List.takeWhile_cons,aW,if_true,List.length_cons]
 omega
theorem UO {f:UInt8→Bool} {s:List UInt8} {i:Nat} (h:i<s.length→f (s.getD i 0)=false):runN f s i=i:=by
 by_cases ab:i<s.length
 · have:=h ab
   rw [runN,drop_cons ab,List.takeWhile_cons,this]
   simp
 · simp [runN,List.drop_of_length_le (Nat.not_lt.1 ab)]
theorem UP (f:UInt8→Bool) {s:List UInt8} {i:Nat} (h:i≤s.length):runN f s i≤s.length:=by
 have:((s.drop i).takeWhile f).length≤(s.drop i).length:=(List.takeWhile_sublist _).length_le
 simp only [List.length_drop] at this
 simp only [runN]
 omega
def gW:List UInt8:=[48,49,50,51,52,53,54,55,56,57,97,98,99,100,101,102]
def oo:List UInt8:=[61,123,125,91,93,40,41,58,44,46,43,63,45]
def j6 (s:List UInt8):Int:=if Lib.hasPrefix s [61,61]=true then 2 else if 0≤Lib.indexByte oo (s.getD 0 0) then 1 else 0
theorem yL (s:List UInt8) (i:Nat):aa s (i:Int)=s.getD i 0:=by simp [aa];rfl
theorem Fc (s:List UInt8) (n k:Nat):aa s ((n:Int)+(k:Int))=s.getD (n+k) 0:=by
 rw [←Int.natCast_add,yL]
def eK (f:UInt8→Bool) (s:List UInt8) (a:Int):Int:=(runN f s a.toNat:Nat)
theorem vU {f:UInt8→Bool} {s:List UInt8} {i:Int} (aq:0≤i) (h:i<s.length) (aW:f (aa s i)=true):eK f s i=eK f s (i+1):=by
 obtain ⟨n,rfl⟩:=Int.eq_ofNat_of_zero_le aq
 simp only [eK,Int.toNat_natCast]
 rw [UN (by omega) (by rw [yL] at aW;exact aW)]
 rfl
theorem UQ {f:UInt8→Bool} {s:List UInt8} {i:Int} (aq:0≤i) (h:i<s.length→f (aa s i)=false):eK f s i=i:=by
 obtain ⟨n,rfl⟩:=Int.eq_ofNat_of_zero_le aq
 simp only [eK,Int.toNat_natCast]
 rw [UO (fun ba=>by have:=h (by omega);rwa [yL] at this)]
theorem yM (f:UInt8→Bool) {s:List UInt8} {i:Int} (aq:0≤i) (h:i≤s.length):eK f s i≤s.length:=by
 have:=UP f (s:=s) (i:=i.toNat) (by omega)
 simp only [eK];omega
theorem vV (f:UInt8→Bool) {s:List UInt8} {i:Int} (aq:0≤i):i≤eK f s i:=by
 simp only [eK,runN];omega
def iu (c:UInt8):Bool:=lU c||fo c
theorem yN {c:UInt8}:fo c=true↔(48≤(c.toNat:Int)∧(c.toNat:Int)≤57):=by simp [fo]
theorem Fe {c:UInt8}:lU c=true↔(97≤(c.toNat:Int)∧(c.toNat:Int)≤122):=by simp [lU]
theorem KB (c:UInt8) (m:ad) (K:R→ad→Prop) (U:K (.bool (lU c)) m):bn Tryz.prog 121 [.int .u8 c.toNat] m K:=by
 refine enter (c:=cP [] [] [1] [] [] []) (vs:=[.aK (.int .u8 c.toNat)]) (L:=[]) (m:=m) false cc Tryz.mixed Tryz.func121 rfl (k:=1) (by show cJ [] _ _ _=true;decide+kernel) rfl (Good.nil m) ?_
 refine cx [] 2 ((decide (97≤(c.toNat:Int)))&&(decide ((c.toNat:Int)≤122))) ?_ ?_
 · repeat' first
    |exact ⟨⟨_,rfl,by grind [bM.val]⟩,rfl⟩
    |refine an (fun _=>?_) (fun _=>?_)
 exact bt rfl fun _=>U
theorem Ff (c:UInt8) (m:ad) (K:R→ad→Prop) (U:K (.bool (fo c)) m):bn Tryz.prog 123 [.int .u8 c.toNat] m K:=by
 refine enter (c:=cP [] [] [1] [] [] []) (vs:=[.aK (.int .u8 c.toNat)]) (L:=[]) (m:=m) false cc Tryz.mixed Tryz.func123 rfl (k:=1) (by show cJ [] _ _ _=true;decide+kernel) rfl (Good.nil m) ?_
 refine cx [] 2 ((decide (48≤(c.toNat:Int)))&&(decide ((c.toNat:Int)≤57))) ?_ ?_
 · repeat' first
    |exact ⟨⟨_,rfl,by grind [bM.val]⟩,rfl⟩
    |refine an (fun _=>?_) (fun _=>?_)
 exact bt rfl fun _=>U
theorem UR (c:UInt8) (m:ad) (K:R→ad→Prop) (U:K (.bool (rq c)) m):bn Tryz.prog 120 [.int .u8 c.toNat] m K:=by
 refine enter (c:=cP [] [] [] [] [] []) (vs:=[.aK (.int .u8 c.toNat)]) (L:=[]) (m:=m) false cc Tryz.mixed Tryz.func120 rfl (k:=1) (by show cJ [] _ _ _=true;decide+kernel) rfl (Good.nil m) ?_
 exact bt rfl fun _=>U
theorem US (c:UInt8) (m:ad) (K:R→ad→Prop) (U:K (.bool (iu c)) m):bn Tryz.prog 122 [.int .u8 c.toNat] m K:=by
 refine enter (c:=cP [] [] [1] [] [] []) (vs:=[.aK (.int .u8 c.toNat)]) (L:=[]) (m:=m) false cc Tryz.mixed Tryz.func122 rfl (k:=1) (by show cJ [] _ _ _=true;decide+kernel) rfl (Good.nil m) ?_
 refine cx [] 2 ((lU c)||(fo c)) ?_ ?_
 · repeat' first
    |exact ⟨⟨_,rfl,by grind [bM.val]⟩,rfl⟩
    |refine an (fun _=>?_) (fun _=>?_)
    |refine ct (fun _=>KB c) rfl ?_
    |refine ct (fun _=>Ff c) rfl ?_
 exact bt rfl fun _=>U
theorem Bn (c:UInt8) (m:ad) (K:R→ad→Prop) (U:K (.int .i64 (Lib.indexByte gW c)) m):bn Tryz.prog 173 [.int .u8 c.toNat] m K:=by
 refine enter (c:=cP [] [] [] [] [] []) (vs:=[.aK (.int .u8 c.toNat)]) (L:=[]) (m:=m) false cc Tryz.mixed Tryz.func173 rfl (k:=1) (by show cJ [] _ _ _=true;decide+kernel) rfl (Good.nil m) ?_
 refine ct (fun _=>KA ([48,49,50,51,52,53,54,55,56,57,97,98,99,100,101,102]:List UInt8) (by first|decide|omega) c) rfl ?_
 exact bt rfl fun _=>U
theorem UT (s:ak) (al:0<s.length) (m:ad) (K:R→ad→Prop) (U:K (.int .i64 (j6 s)) m):bn Tryz.prog 125 [.str s] m K:=by
 refine enter (c:=cP [] [] [] [] [] []) (vs:=[.aK (.str s)]) (L:=[]) (m:=m) false cc Tryz.mixed Tryz.func125 rfl (k:=1) (by show cJ [] _ _ _=true;decide+kernel) rfl (Good.nil m) ?_
 refine aZ ?_
 refine ct (fun _=>UM s ([61,61]:List UInt8)) rfl ?_
 refine an (fun I=>?_) (fun I=>?_)
 · refine bt rfl fun _=>e9 U ?_
   show R.int .i64 (j6 s)=R.int .i64 2
   refine congrArg (R.int .i64) ?_
   rw [j6,if_pos I]
 refine aZ ?_
 refine an (by omega) ?_
 refine ct (fun _=>KA ([61,123,125,91,93,40,41,58,44,46,43,63,45]:List UInt8) (by first|decide|omega) (aa s 0)) rfl ?_
 refine an (fun J=>?_) (fun J=>?_)
 · refine bt rfl fun _=>e9 U ?_
   show R.int .i64 (j6 s)=R.int .i64 1
   refine congrArg (R.int .i64) ?_
   rw [j6,if_neg (by rw [I];simp),if_pos (show 0≤Lib.indexByte oo (s.getD 0 0) from J)]
 refine bt rfl fun _=>e9 U ?_
 show R.int .i64 (j6 s)=R.int .i64 0
 refine congrArg (R.int .i64) ?_
 rw [j6,if_neg (by rw [I];simp),if_neg (show ¬0≤Lib.indexByte oo (s.getD 0 0) from Int.not_le.2 J)]
end Go.Proofs
end
section
namespace Go.Proofs
open Go Go.bh Go.bS
set_option maxRecDepth 100000
def sF (a b:Int):UInt8:=UInt8.ofNat (16*a+b).toNat
def iv (s:List UInt8) (i:Nat) (b:List UInt8):Int×List UInt8×Int:=
 if i<s.length then
  if (s.getD i 0).toNat=34 then (if 40<b.length then (1,[],0) else (0,b,((i+1:Nat):Int)))
  else if (s.getD i 0).toNat<32∨126<(s.getD i 0).toNat then (4,[],0)
  else if (s.getD i 0).toNat≠92 then iv s (i+1) (b++[s.getD i 0])
  else if i+1<s.length∧((s.getD (i+1) 0).toNat=34∨(s.getD (i+1) 0).toNat=92) then iv s (i+2) (b++[s.getD (i+1) 0])
  else if i+3<s.length∧(s.getD (i+1) 0).toNat=120∧0≤Lib.indexByte gW (s.getD (i+2) 0)∧0≤Lib.indexByte gW (s.getD (i+3) 0) then
   iv s (i+4) (b++[sF (Lib.indexByte gW (s.getD (i+2) 0)) (Lib.indexByte gW (s.getD (i+3) 0))])
  else (4,[],0)
 else (4,[],0)
termination_by s.length- i
def yO (r:Int×List UInt8×Int):R:= .tuple [.str r.2.1, .int .i64 r.2.2, .err 115 r.1]
section
variable {s b:List UInt8} {i:Nat}
theorem UU (h:¬i<s.length):iv s i b=(4,[],0):=by rw [iv,if_neg h]
theorem UW (h:i<s.length) (ag:(s.getD i 0).toNat=34) (ae:¬40<b.length):iv s i b=(0,b,((i+1:Nat):Int)):=by rw [iv,if_pos h,if_pos ag,if_neg ae]
theorem UX (h:i<s.length) (ag:(s.getD i 0).toNat≠34) (ae:¬((s.getD i 0).toNat<32∨126<(s.getD i 0).toNat)) (dB:(s.getD i 0).toNat≠92):iv s i b=iv s (i+1) (b++[s.getD i 0]):=by
 conv=>lhs;rw [iv]
 rw [if_pos h,if_neg ag,if_neg ae,if_pos dB]
theorem UY (h:i<s.length) (dB:(s.getD i 0).toNat=92) (I:i+1<s.length∧((s.getD (i+1) 0).toNat=34∨(s.getD (i+1) 0).toNat=92)):iv s i b=iv s (i+2) (b++[s.getD (i+1) 0]):=by
 conv=>lhs;rw [iv]
 rw [if_pos h,if_neg (by omega),if_neg (by omega),if_neg (by omega),if_pos I]
theorem UZ (h:i<s.length) (dB:(s.getD i 0).toNat=92) (I:¬(i+1<s.length∧((s.getD (i+1) 0).toNat=34∨(s.getD (i+1) 0).toNat=92)))
 (J:i+3<s.length∧(s.getD (i+1) 0).toNat=120∧0≤Lib.indexByte gW (s.getD (i+2) 0)∧0≤Lib.indexByte gW (s.getD (i+3) 0)):
 iv s i b=iv s (i+4) (b++[sF (Lib.indexByte gW (s.getD (i+2) 0)) (Lib.indexByte gW (s.getD (i+3) 0))]):=by
 conv=>lhs;rw [iv]
 rw [if_pos h,if_neg (by omega),if_neg (by omega),if_neg (by omega),if_neg I,if_pos J]
end
theorem KC (c:UInt8):Lib.indexByte gW c<16:=by
 rcases Bm gW c with h|h
 · simpa [gW] using h
 · rw [h];decide
theorem U0 (a b:Int) (aH:0≤a) (se:a<16) (ae:0≤b) (e8:b<16):
 IntKind.u8.wrap (IntKind.i64.wrap ((BitVec.ofInt IntKind.i64.bits (IntKind.i64.wrap (a*2^(min (Int.toNat 4) IntKind.i64.bits))) ||| BitVec.ofInt IntKind.i64.bits b).toNat))=(sF a b).toNat:=by
 obtain ⟨a,rfl⟩:=Int.eq_ofNat_of_zero_le aH
 obtain ⟨b,rfl⟩:=Int.eq_ofNat_of_zero_le ae
 have key:∀a b:Fin 16,IntKind.u8.wrap (IntKind.i64.wrap ((BitVec.ofInt IntKind.i64.bits (IntKind.i64.wrap (((a.1:Nat):Int)*2^(min (Int.toNat 4) IntKind.i64.bits))) ||| BitVec.ofInt IntKind.i64.bits ((b.1:Nat):Int)).toNat))=(sF ((a.1:Nat):Int) ((b.1:Nat):Int)).toNat:=by decide+kernel
 exact key ⟨a,by omega⟩ ⟨b,by omega⟩
theorem u8_or (a b:Int) (aH:0≤a) (se:a<16) (ae:0≤b) (e8:b<16):
 jk (IntKind.i64.wrap ((BitVec.ofInt IntKind.i64.bits (IntKind.i64.wrap (a*2^(min (Int.toNat 4) IntKind.i64.bits))) ||| BitVec.ofInt IntKind.i64.bits b).toNat))=sF a b:=by
 apply UInt8.toNat_inj.1
 have:=U0 a b aH se ae e8
 rw [←CY] at this
 omega
section
variable {s b:List UInt8} {i:Int}
def gB (s:List UInt8) (i:Int) (b:List UInt8):=iv s i.toNat b
theorem U1 (h:s.length≤i):gB s i b=(4,[],0):=UU (by omega)
theorem U2 (aq:0≤i) (h:i<s.length):gB s i b=
 if ((aa s i).toNat:Int)=34 then (if (40:Int)<b.length then (1,[],0) else (0,b,i+1))
 else if ((aa s i).toNat:Int)<32∨126<((aa s i).toNat:Int) then (4,[],0)
 else if ((aa s i).toNat:Int)≠92 then gB s (i+1) (b++[aa s i])
 else if i+1<s.length∧(((aa s (i+1)).toNat:Int)=34∨((aa s (i+1)).toNat:Int)=92) then gB s (i+2) (b++[aa s (i+1)])
 else if i+3<s.length∧((aa s (i+1)).toNat:Int)=120∧0≤Lib.indexByte gW (aa s (i+2))∧0≤Lib.indexByte gW (aa s (i+3)) then
  gB s (i+4) (b++[sF (Lib.indexByte gW (aa s (i+2))) (Lib.indexByte gW (aa s (i+3)))])
 else (4,[],0):=by
 obtain ⟨n,rfl⟩:=Int.eq_ofNat_of_zero_le aq
 have bp:=yL s n
 have ax:=Fc s n 1
 have aI:=Fc s n 2
 have cR:=Fc s n 3
 have cH:((n:Int)+1).toNat=n+1:=by omega
 have dO:((n:Int)+2).toNat=n+2:=by omega
 have HC:((n:Int)+4).toNat=n+4:=by omega
 simp only [gB,Int.toNat_natCast,cH,dO,HC]
 simp only [Int.natCast_one,Int.cast_ofNat_Int] at ax aI cR
 rw [bp,ax,aI,cR]
 conv=>lhs;rw [iv]
 rw [if_pos (by omega)]
 have ie:(((s.getD n 0).toNat:Int)=34)=((s.getD n 0).toNat=34):=propext ⟨fun h=>by omega,fun h=>by omega⟩
 have iC:(((s.getD n 0).toNat:Int)<32∨126<((s.getD n 0).toNat:Int))=((s.getD n 0).toNat<32∨126<(s.getD n 0).toNat):=propext ⟨fun h=>by omega,fun h=>by omega⟩
 have U3:(((s.getD n 0).toNat:Int)≠92)=((s.getD n 0).toNat≠92):=propext ⟨fun h=>by omega,fun h=>by omega⟩
 have U4:((n:Int)+1<s.length∧(((s.getD (n+1) 0).toNat:Int)=34∨((s.getD (n+1) 0).toNat:Int)=92))=(n+1<s.length∧((s.getD (n+1) 0).toNat=34∨(s.getD (n+1) 0).toNat=92)):=propext ⟨fun h=>by omega,fun h=>by omega⟩
 have U5:((n:Int)+3<s.length∧((s.getD (n+1) 0).toNat:Int)=120∧0≤Lib.indexByte gW (s.getD (n+2) 0)∧0≤Lib.indexByte gW (s.getD (n+3) 0))=(n+3<s.length∧(s.getD (n+1) 0).toNat=120∧0≤Lib.indexByte gW (s.getD (n+2) 0)∧0≤Lib.indexByte gW (s.getD (n+3) 0)):=propext ⟨fun h=>⟨by omega,by omega,h.2.2⟩,fun h=>⟨by omega,by omega,h.2.2⟩⟩
 have U6:((40:Int)<b.length)=(40<b.length):=propext ⟨fun h=>by omega,fun h=>by omega⟩
 simp only [ie,iC,U3,U4,U5,U6]
 rfl
end
set_option maxHeartbeats 2000000 in
theorem U7 (s:ak) (a:Int) (al:s.length≤16777216) (aq:0≤a) (aH:a<s.length) (m:ad) (K:R→ad→Prop) (U:K (yO (gB s (a+1) [])) m):bn Tryz.prog 124 [.str s, .int .i64 a] m K:=by
 refine enter (c:=cP [] [] [11,14,17] [] [] []) (vs:=[.aK (.str s), .aK (.int .i64 a)]) (L:=[]) (m:=m) true cc Tryz.mixed Tryz.func124 rfl (k:=2) (by show cJ [] _ _ _=true;decide+kernel) rfl (Good.nil m) ?_
 refine aZ ?_
 refine an (by omega) ?_
 refine ev (σ:=(List UInt8)×Int) [] [0,7,8] 0 (fun ⟨b,i⟩=>([(0,bf s),(7, .own (b.map cB)),(8,aw i)],[],m)) (fun ⟨b,i⟩=>0≤i∧i≤s.length∧(b.length:Int)≤i∧gB s (a+1) []=gB s i b) (fun ⟨b,i⟩=>s.length- i.toNat) ([],a+1) ⟨rfl,rfl⟩ ?_ ?_
 · try dsimp only
   exact ⟨by omega,by omega,by simp;omega,rfl⟩
 rintro ⟨b,i⟩ aM
 dsimp only at aM
 refine aZ ?_
 refine an (fun I=>?_) (fun I=>?_)
 · have aO:=U2 (b:=b) aM.1 I
   have vD:=KC (aa s (i+2))
   have ym:=KC (aa s (i+3))
   refine aZ ?_
   refine an (by omega) ?_
   refine an (fun J=>?_) (fun J=>?_)
   · refine aZ ?_
     refine dq ?_
     refine an (fun ai=>?_) (fun ai=>?_)
     · refine bt rfl fun _=>e9 U ?_
       show yO (gB s (a+1) [])=R.tuple [.str ([]), .int .i64 0, .err 115 1]
       rw [aM.2.2.2,aO,if_pos J,if_pos ai];rfl
     refine pP ?_
     refine an (by omega) ?_
     refine bt rfl fun _=>e9 U ?_
     show yO (gB s (a+1) [])=R.tuple [.str b, .int .i64 (i+1), .err 115 0]
     rw [aM.2.2.2,aO,if_pos J,if_neg (by omega)];rfl
   refine cx [0,7,8,9] 36 (((((aa s i).toNat:Int)==92)&&(decide (i+1<(s.length:Int))))&&((((aa s (i+1)).toNat:Int)==34)||(((aa s (i+1)).toNat:Int)==92))) ?_ ?_
   · repeat' first
      |exact ⟨⟨_,rfl,by grind [bM.val]⟩,rfl⟩
      |refine an (fun _=>?_) (fun _=>?_)
      |refine an (by omega) ?_
   refine an (fun aC=>?_) (fun aC=>?_)
   · replace aC:((((aa s i).toNat:Int)=92)∧(i+1<(s.length:Int)))∧((((aa s (i+1)).toNat:Int)=34)∨(((aa s (i+1)).toNat:Int)=92)):=⟨⟨(eq_of_beq (e4 (e4 aC))),(of_decide_eq_true (fY (e4 aC)))⟩,((da (fY aC)).imp (fun q=>(eq_of_beq q)) (fun q=>(eq_of_beq q)))⟩
     refine an (by omega) ?_
     refine an (by omega) ?_
     refine ap cB b ([aa s (i+1)]:List UInt8) rfl rfl (fun _=>⟨rfl,rfl⟩) (by (simp only [List.length_append,List.length_cons,List.length_nil];omega)) ?_
     refine an (by omega) ?_
     refine ⟨(b++([aa s (i+1)]:List UInt8),(i+1)+1),⟨rfl,rfl⟩,?_,?_⟩
     · try dsimp only
       exact ⟨by omega,by omega,by simp;omega,by rw [aM.2.2.2,aO,if_neg J,if_neg (by omega),if_neg (by omega),if_pos (by omega)];congr 1;omega⟩
     try dsimp only
     omega
   replace aC:((((aa s i).toNat:Int)≠92)∨((s.length:Int)≤i+1))∨((((aa s (i+1)).toNat:Int)≠34)∧(((aa s (i+1)).toNat:Int)≠92)):=((fZ aC).imp (fun q=>((fZ q).imp (fun q=>(ne_of_beq_false q)) (fun q=>(Int.not_lt.1 (of_decide_eq_false q))))) (fun q=>⟨(ne_of_beq_false (bZ q)),(ne_of_beq_false (c8 q))⟩))
   refine cx [0,7,8,9] 68 (((((((aa s i).toNat:Int)==92)&&(decide (i+3<(s.length:Int))))&&(((aa s (i+1)).toNat:Int)==120))&&(decide (0≤Lib.indexByte gW (aa s (i+2)))))&&(decide (0≤Lib.indexByte gW (aa s (i+3))))) ?_ ?_
   · repeat' first
      |exact ⟨⟨_,rfl,by grind [bM.val]⟩,rfl⟩
      |refine an (fun _=>?_) (fun _=>?_)
      |refine an (by omega) ?_
      |refine ct (fun _=>Bn (aa s (i+2))) rfl ?_
      |refine ct (fun _=>Bn (aa s (i+3))) rfl ?_
   refine an (fun aN=>?_) (fun aN=>?_)
   · replace aN:((((((aa s i).toNat:Int)=92)∧(i+3<(s.length:Int)))∧(((aa s (i+1)).toNat:Int)=120))∧(0≤Lib.indexByte gW (aa s (i+2))))∧(0≤Lib.indexByte gW (aa s (i+3))):=⟨⟨⟨⟨(eq_of_beq (e4 (e4 (e4 (e4 aN))))),(of_decide_eq_true (fY (e4 (e4 (e4 aN)))))⟩,(eq_of_beq (fY (e4 (e4 aN))))⟩,(of_decide_eq_true (fY (e4 aN)))⟩,(of_decide_eq_true (fY aN))⟩
     refine an (by omega) ?_
     refine an (by omega) ?_
     refine hx (fun _=>Bn (aa s (i+2))) ?_
     refine an (by omega) ?_
     refine an (by omega) ?_
     refine an (by omega) ?_
     refine hx (fun _=>Bn (aa s (i+3))) ?_
     refine ap cB b ([(jk (IntKind.i64.wrap (BitVec.ofInt IntKind.i64.bits (IntKind.i64.wrap ((Lib.indexByte gW (aa s (i+2)))*2^(min (Int.toNat 4) IntKind.i64.bits))) ||| BitVec.ofInt IntKind.i64.bits (Lib.indexByte gW (aa s (i+3)))).toNat))]:List UInt8) rfl rfl (fun _=>⟨rfl,rfl⟩) (by (simp only [List.length_append,List.length_cons,List.length_nil];omega)) ?_
     refine an (by omega) ?_
     refine an (by omega) ?_
     refine ⟨(b++([(jk (IntKind.i64.wrap (BitVec.ofInt IntKind.i64.bits (IntKind.i64.wrap ((Lib.indexByte gW (aa s (i+2)))*2^(min (Int.toNat 4) IntKind.i64.bits))) ||| BitVec.ofInt IntKind.i64.bits (Lib.indexByte gW (aa s (i+3)))).toNat))]:List UInt8),(i+3)+1),⟨rfl,rfl⟩,?_,?_⟩
     · try dsimp only
       exact ⟨by omega,by omega,by simp;omega,by rw [aM.2.2.2,aO,if_neg J,if_neg (by omega),if_neg (by omega),if_neg (by omega),if_pos (by omega),u8_or _ _ (by omega) (by omega) (by omega) (by omega)];congr 1;omega⟩
     try dsimp only
     omega
   replace aN:((((((aa s i).toNat:Int)≠92)∨((s.length:Int)≤i+3))∨(((aa s (i+1)).toNat:Int)≠120))∨(Lib.indexByte gW (aa s (i+2))<0))∨(Lib.indexByte gW (aa s (i+3))<0):=((fZ aN).imp (fun q=>((fZ q).imp (fun q=>((fZ q).imp (fun q=>((fZ q).imp (fun q=>(ne_of_beq_false q)) (fun q=>(Int.not_lt.1 (of_decide_eq_false q))))) (fun q=>(ne_of_beq_false q)))) (fun q=>(Int.not_le.1 (of_decide_eq_false q))))) (fun q=>(Int.not_le.1 (of_decide_eq_false q))))
   refine cx [0,7,8,9] 119 (((((aa s i).toNat:Int)==92)||(decide (((aa s i).toNat:Int)<32)))||(decide (126<((aa s i).toNat:Int)))) ?_ ?_
   · repeat' first
      |exact ⟨⟨_,rfl,by grind [bM.val]⟩,rfl⟩
      |refine an (fun _=>?_) (fun _=>?_)
   refine an (fun bE=>?_) (fun bE=>?_)
   · replace bE:((((aa s i).toNat:Int)=92)∨(((aa s i).toNat:Int)<32))∨(126<((aa s i).toNat:Int)):=((da bE).imp (fun q=>((da q).imp (fun q=>(eq_of_beq q)) (fun q=>(of_decide_eq_true q)))) (fun q=>(of_decide_eq_true q)))
     refine bt rfl fun _=>e9 U ?_
     show yO (gB s (a+1) [])=R.tuple [.str ([]), .int .i64 0, .err 115 4]
     rw [aM.2.2.2,aO,if_neg J];(repeat' split)<;>first|rfl|omega
   replace bE:((((aa s i).toNat:Int)≠92)∧(32≤((aa s i).toNat:Int)))∧(((aa s i).toNat:Int)≤126):=⟨⟨(ne_of_beq_false (bZ (bZ bE))),(Int.not_lt.1 (of_decide_eq_false (c8 (bZ bE))))⟩,(Int.not_lt.1 (of_decide_eq_false (c8 bE)))⟩
   refine ap cB b ([aa s i]:List UInt8) rfl rfl (fun _=>⟨rfl,rfl⟩) (by (simp only [List.length_append,List.length_cons,List.length_nil];omega)) ?_
   refine an (by omega) ?_
   refine ⟨(b++([aa s i]:List UInt8),i+1),⟨rfl,rfl⟩,?_,?_⟩
   · try dsimp only
     exact ⟨by omega,by omega,by simp;omega,by rw [aM.2.2.2,aO,if_neg J,if_neg (by omega),if_pos (by omega)]⟩
   try dsimp only
   omega
 refine bt rfl fun _=>e9 U ?_
 show yO (gB s (a+1) [])=R.tuple [.str ([]), .int .i64 0, .err 115 4]
 rw [aM.2.2.2,U1 I];rfl
end Go.Proofs
end
section
namespace Go.Proofs
open Go Go.bh Go.bS
set_option maxRecDepth 100000
def gm (s:List UInt8) (a:Int):Int×List UInt8×Int×Int:=
 if lU (aa s a)=true then
  (if 12<eK iu s a- a then (0,[],0,1) else (1,sub s a (eK iu s a),eK iu s a,0))
 else if fo (aa s a)=true then
  (if 10<eK fo s a- a∨(((aa s a).toNat:Int)=48∧a+1<eK fo s a) then (0,[],0,1) else (2,sub s a (eK fo s a),eK fo s a,0))
 else if ((aa s a).toNat:Int)=34 then
  (if (gB s (a+1) []).1=0 then 3 else 0,(gB s (a+1) []).2.1,(gB s (a+1) []).2.2,(gB s (a+1) []).1)
 else if ((aa s a).toNat:Int)=61∧a+1<s.length∧((aa s (a+1)).toNat:Int)=61 then (4,[61,61],a+2,0)
 else if 0≤Lib.indexByte oo (aa s a) then (4,sub s a (a+1),a+1,0)
 else (0,[],0,4)
end Go.Proofs
end
section
namespace Go.Proofs
open Go Go.bh Go.bS
set_option maxRecDepth 100000
abbrev Tok:=Int×Int×List UInt8
def cl (t:Tok):R:= .agg [.int .i64 t.1, .int .i64 t.2.1, .str t.2.2]
def gX:Nat→List UInt8→Int→List Tok→List Tok×Int×Int
 |0,_,_,out=>(out,0,0)
 |n+1,s,a,out=>
  if a<s.length then
   if ((aa s a).toNat:Int)=32∨((aa s a).toNat:Int)=10 then gX n s (a+1) out
   else if ((aa s a).toNat:Int)=35 then gX n s (eK rq s a) out
   else if (gm s a).2.2.2≠0 then ([],a,(gm s a).2.2.2)
   else gX n s (gm s a).2.2.1 (out++[((gm s a).1,a,(gm s a).2.1)])
  else (out,0,0)
def eE (s:List UInt8):List Tok×Int×Int:=if 4000<(s.length:Int) then ([],0,2) else gX (s.length+1) s 0 []
theorem KD {n:Nat} {s:List UInt8} {a:Int} {out:List Tok} (h:s.length≤a):gX (n+1) s a out=(out,0,0):=by rw [gX,if_neg (by omega)]
theorem KE {n:Nat} {s:List UInt8} {a:Int} {out:List Tok} (h:a<s.length) (ag:((aa s a).toNat:Int)=32∨((aa s a).toNat:Int)=10):gX (n+1) s a out=gX n s (a+1) out:=by rw [gX,if_pos h,if_pos ag]
theorem U8 {n:Nat} {s:List UInt8} {a:Int} {out:List Tok} (h:a<s.length) (ag:((aa s a).toNat:Int)=35):gX (n+1) s a out=gX n s (eK rq s a) out:=by rw [gX,if_pos h,if_neg (by omega),if_pos ag]
theorem U9 {n:Nat} {s:List UInt8} {a:Int} {out:List Tok} (h:a<s.length) (ag:¬(((aa s a).toNat:Int)=32∨((aa s a).toNat:Int)=10)) (aN:((aa s a).toNat:Int)≠35) (he:(gm s a).2.2.2≠0):gX (n+1) s a out=([],a,(gm s a).2.2.2):=by
 rw [gX,if_pos h,if_neg ag,if_neg aN,if_pos he]
theorem KF {n:Nat} {s:List UInt8} {a:Int} {out:List Tok} (h:a<s.length) (ag:¬(((aa s a).toNat:Int)=32∨((aa s a).toNat:Int)=10)) (aN:((aa s a).toNat:Int)≠35) (he:(gm s a).2.2.2=0):
 gX (n+1) s a out=gX n s (gm s a).2.2.1 (out++[((gm s a).1,a,(gm s a).2.1)]):=by
 rw [gX,if_pos h,if_neg ag,if_neg aN,if_neg (by simpa using he)]
theorem KG (s:List UInt8) (i:Nat) (b:List UInt8):0≤(iv s i b).1∧((iv s i b).1=0→(i:Int)<(iv s i b).2.2∧(iv s i b).2.2≤s.length):=by
 fun_induction iv s i b<;>simp_all<;>omega
theorem KH (s:List UInt8) (a:Int) (aq:0≤a) (b:List UInt8):0≤(gB s a b).1∧((gB s a b).1=0→a<(gB s a b).2.2∧(gB s a b).2.2≤s.length):=by
 have:=KG s a.toNat b
 rw [gB]
 refine ⟨this.1,fun h=>?_⟩
 have:=this.2 h
 omega
theorem Va (s:List UInt8) (a:Int):0≤(gm s a).2.2.2:=by
 unfold gm
 split
 · split<;>simp
 · split
   · split<;>simp
   · split
     · rw [gB];exact (KG _ _ _).1
     · split
       · simp
       · split<;>simp
theorem Vb {s:List UInt8} {a:Int} (aq:0≤a) (aH:a<s.length) (he:(gm s a).2.2.2=0):a<(gm s a).2.2.1∧(gm s a).2.2.1≤s.length:=by
 have hw:=yM iu (s:=s) aq (by omega)
 have aY:=yM fo (s:=s) aq (by omega)
 have Ew:lU (aa s a)=true→a+1≤eK iu s a:=fun ar=>by
  rw [vU aq aH (by simp [iu,ar])];exact vV _ (by omega)
 have r3:fo (aa s a)=true→a+1≤eK fo s a:=fun ar=>by
  rw [vU aq aH ar];exact vV _ (by omega)
 unfold gm at he ⊢
 split
 · next ar=>
   have:=Ew ar
   split<;>simp_all<;>omega
 · split
   · next ar=>
     have:=r3 ar
     split<;>simp_all<;>omega
   · split
     · next aal=>
       simp_all
       have:=(KH s (a+1) (by omega) []).2 he
       omega
     · split
       · simp;omega
       · split<;>simp_all<;>omega
end Go.Proofs
end
