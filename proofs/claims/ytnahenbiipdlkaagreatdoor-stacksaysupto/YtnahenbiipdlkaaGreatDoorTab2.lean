import Derived.Test.YtnahenbiipdlkaaGreatDoorSv3
import Derived.Test.YtnahenbiipdlkaaGreatDoorProg
import Derived.Test.YtnahenbiipdlkaaGreatDoorWxz
section
namespace Go.Proofs
open Go Go.bg Go.cz
set_option maxRecDepth 100000
def dB:aW:= .mk 0 0 [] [] []
theorem aW.ext' {a b:aW} (J:a.kind=b.kind) (aa:a.n=b.n) (aj:a.s=b.s) (aG:a.l=b.l) (aR:a.f=b.f):a=b:=by
 cases a;cases b;simp only [aW.kind,aW.n,aW.s,aW.l,aW.f] at J aa aj aG aR;subst J aa aj aG aR;rfl
noncomputable def hy (a b:aW):Bool:=@decide (a=b) (Classical.propDecidable _)
theorem rU {a b:aW} (h:a=b):hy a b=true:=by simp [hy,h]
theorem vu {a b:aW} (h:a≠b):hy a b=false:=by simp [hy,h]
theorem tl {a b:aW}:hy a b=true↔a=b:=by simp [hy]
def h5 {α:Type} (g:α→Int→Bool×Int):List α→Int→Bool×Int
 |[],n=>(true,n)
 |x::r,n=>if (g x n).1=true then h5 g r (g x n).2 else (false,(g x n).2)
def eQ:Nat→Int→aW→Int→Bool×Int
 |0,_,_,n=>(false,n)
 |k+1,deep,v,n=>
  if 6<deep∨n- 1<0 then (false,n- 1)
  else if (h5 (eQ k (deep+1)) v.l (n- 1)).1=false then (false,(h5 (eQ k (deep+1)) v.l (n- 1)).2)
  else h5 (fun p=>eQ k (deep+1) p.2) v.f (h5 (eQ k (deep+1)) v.l (n- 1)).2
def hb {α:Type} (g:α→Nat):List α→Nat
 |[]=>0
 |x::r=>g x+hb g r
theorem AH (l:List aW):hb bI l=lV l:=by
 induction l with
 |nil=>rfl
 |cons v r aO=>simp only [hb,lV,aO]
theorem AI (l:List (ar×aW)):hb (fun p=>bI p.2) l=mB l:=by
 induction l with
 |nil=>rfl
 |cons p r aO=>
  obtain ⟨s,v⟩:=p
  cases v with
  |mk k n t l f=>simp only [hb,mB,aO,bI]
theorem AJ {α:Type} {g:α→Int→Bool×Int} {d:α→Nat} (bc:∀x n,0≤n→(g x n).1=true→0≤(g x n).2∧(g x n).2+d x=n):∀(l:List α) (n:Int),0≤n→(h5 g l n).1=true→0≤(h5 g l n).2∧(h5 g l n).2+hb d l=n
 |[],n,aJ,_=>by simp [h5,hb,aJ]
 |x::r,n,aJ,h=>by
  rw [h5] at h ⊢
  split at h
  · rename_i J
    have aa:=bc x n aJ J
    have aj:=AJ bc r _ aa.1 h
    rw [if_pos J,hb]
    exact ⟨aj.1,by push_cast;omega⟩
  · cases h
theorem rV:∀(k:Nat) (deep:Int) (v:aW) (n:Int),0≤n→(eQ k deep v n).1=true→0≤(eQ k deep v n).2∧(eQ k deep v n).2+bI v=n
 |0,_,_,_,_,h=>by simp [eQ] at h
 |k+1,deep,v,n,aJ,h=>by
  rw [eQ] at h ⊢
  split at h
  · cases h
  · rename_i J
    rw [if_neg J]
    split at h
    · cases h
    · rename_i aa
      rw [if_neg aa]
      have aj:(h5 (eQ k (deep+1)) v.l (n- 1)).1=true:=by simpa using aa
      have a:=AJ (d:=bI) (g:=eQ k (deep+1)) (fun x n aM an=>rV k (deep+1) x n aM an) v.l (n- 1) (by omega) aj
      have b:=AJ (d:=fun p:ar×aW=>bI p.2) (g:=fun p=>eQ k (deep+1) p.2) (fun x n aM an=>rV k (deep+1) x.2 n aM an) v.f _ a.1 h
      rw [AH] at a
      rw [AI] at b
      have e:=ha v
      exact ⟨b.1,by omega⟩
def lp:Option ar→List (ar×aW)→Bool
 |_,[]=>true
 |p,f::r=>cu f.1&&(match p with|none=>true|some s=>Op.bytesLess s f.1)&&lp (some f.1) r
def fK (v:aW):Bool:=
 if v.kind=0 then ((v.n==0)&&(v.s==[]))&&((v.l.length:Int)+(v.f.length:Int)==0)
 else if v.kind=1 then ((decide (-1000000000≤v.n)&&decide (v.n≤1000000000))&&(v.s==[]))&&((v.l.length:Int)+(v.f.length:Int)==0)
 else if v.kind=2 then ((v.n==0)&&decide ((v.s.length:Int)≤40))&&((v.l.length:Int)+(v.f.length:Int)==0)
 else if v.kind=3 then (((v.n==0)||(v.n==1))&&(v.s==[]))&&((v.l.length:Int)+(v.f.length:Int)==0)
 else if v.kind=4 then ((v.n==0)&&(v.s==[]))&&((v.f.length:Int)==0)
 else if v.kind=5 then (((v.n==0)&&(v.s==[]))&&((v.l.length:Int)==0))&&lp none v.f
 else false
def dC:Nat→aW→Bool
 |0,_=>false
 |k+1,v=>fK v&&v.l.all (dC k)&&v.f.all (fun p=>dC k p.2)
def lq (b:Bool):Int:=if b=true then 0 else 3
def b1 (v:aW):Int:=if (eQ (bI v+1) 1 v 60).1=true then lq (dC (bI v+1) v) else 2
def tm (l:List (ar×aW)) (i:Int):Option ar:=if i=0 then none else some (I l (i- 1)).1
theorem Jq (p:Option ar) (f:ar×aW) (r:List (ar×aW)):lp p (f::r)=(cu f.1&&(match p with|none=>true|some s=>Op.bytesLess s f.1)&&lp (some f.1) r):=by cases p<;>rfl
theorem AK {l:List (ar×aW)} {i:Int} (aJ:0≤i) (ad:i<l.length):lp (tm l i) (l.drop i.toNat)=(cu (I l i).1&&((i==0)||Op.bytesLess (I l (i- 1)).1 (I l i).1)&&lp (tm l (i+1)) (l.drop (i+1).toNat)):=by
 have e:tm l (i+1)=some (I l i).1:=by rw [tm,if_neg (by omega)];congr 2;congr 1;omega
 rw [jQ aJ ad,Jq,e,tm]
 by_cases h:i=0
 · simp [h]
 · have:(i==0)=false:=by simpa using h
   rw [if_neg h,this,Bool.false_or]
theorem AL {α:Type} [Inhabited α] {g:α→Int→Bool×Int} {l:List α} {i n:Int} (aJ:0≤i) (ad:i<l.length):h5 g (l.drop i.toNat) n=if (g (I l i) n).1=true then h5 g (l.drop (i+1).toNat) (g (I l i) n).2 else (false,(g (I l i) n).2):=by
 rw [jQ aJ ad,h5]
theorem rW {α:Type} [Inhabited α] {g:α→Bool} {l:List α} {i:Int} (aJ:0≤i) (ad:i<l.length):(l.drop i.toNat).all g=(g (I l i)&&(l.drop (i+1).toNat).all g):=by
 rw [jQ aJ ad,List.all_cons]
theorem Se {k:Nat} {deep n x:Int} {v:aW} (h:¬(6<deep∨n- 1<0)) (e:h5 (eQ k (deep+1)) v.l (n- 1)=(false,x)):eQ (k+1) deep v n=(false,x):=by
 rw [eQ,if_neg h,e,if_pos rfl]
theorem Sf {k:Nat} {deep n x:Int} {v:aW} (h:¬(6<deep∨n- 1<0)) (e:h5 (eQ k (deep+1)) v.l (n- 1)=(true,x)):eQ (k+1) deep v n=h5 (fun p=>eQ k (deep+1) p.2) v.f x:=by
 rw [eQ,if_neg h,e,if_neg (by simp)]
theorem Em {b:Bool} (h:lq b=0):b=true:=by cases b<;>first|rfl|simp [lq] at h
theorem Jr {b:Bool} (h:lq b≠0):b=false:=by cases b<;>first|rfl|simp [lq] at h
theorem Sg {k:Nat} {v:aW} (h:fK v=false):lq (dC (k+1) v)=3:=by rw [dC,h];rfl
theorem Sh {k:Nat} {v:aW} (h:v.l.all (dC k)=false):lq (dC (k+1) v)=3:=by rw [dC,h];simp [lq]
theorem Si {k:Nat} {v:aW} (h:v.f.all (fun p=>dC k p.2)=false):lq (dC (k+1) v)=3:=by rw [dC,h];simp [lq]
theorem Sj {k:Nat} {v:aW} (J:fK v=true) (aa:v.l.all (dC k)=true) (aj:v.f.all (fun p=>dC k p.2)=true):lq (dC (k+1) v)=0:=by rw [dC,J,aa,aj];rfl
set_option maxHeartbeats 4000000 in
theorem Sk (k:Nat) (v:aW) (deep n:Int) (p:Nat) (aO:∀(w:aW) (deep n:Int),bI w<k→1≤deep→deep≤7→0≤n→n≤60→∀(b:Nat) (m:ae),eC [b] m→∀(K:ab→ae→Prop),K (.bool (eQ k deep w n).1) (ae.aS m [(b, .cells [.int .i64 (eQ k deep w n).2])])→bh Tryz.prog 159 [cV w, .int .i64 deep, .ptr ⟨b,0,none⟩] (ae.aS m [(b, .cells [.int .i64 n])]) K) (aY:bI v<k+1) (AM:1≤deep) (W5:deep≤7) (W6:0≤n) (W7:n≤60) (m:ae) (gd:eC [p] m) (K:ab→ae→Prop) (U:K (.bool (eQ (k+1) deep v n).1) (ae.aS m [(p, .cells [.int .i64 (eQ (k+1) deep v n).2])])):bh Tryz.prog 159 [cV v, .int .i64 deep, .ptr ⟨p,0,none⟩] (ae.aS m [(p, .cells [.int .i64 n])]) K:=by
 refine enter (c:=cT [] [0] [2] [] [] [p]) (vs:=[.aI (cV v), .aI (.int .i64 deep), .loc 0 0]) (L:=[.cells [ax n]]) (m:=m) false b2 Tryz.mixed Tryz.func159 rfl (k:=3) (by show cO [] _ _ _=true;decide+kernel) rfl (gd.gZ rfl) ?_
 refine ⟨fun bJ=>?_⟩
 have o6:v.s.length≤140737488355328:=(bJ 0 2 (Nat.le_of_ble_eq_true rfl))
 have kq:v.l.length≤140737488355328:=dr (bJ 0 3 (Nat.le_of_ble_eq_true rfl))
 have mC:v.f.length≤140737488355328:=dr (bJ 0 4 (Nat.le_of_ble_eq_true rfl))
 refine ag (by omega) ?_
 refine aB ?_
 refine cf [1,2,3] 23 ((decide (6<deep))||(decide (n- 1<0))) ?_ ?_
 · repeat' first
    |exact ⟨⟨_,rfl,by grind [bD.val]⟩,rfl⟩
    |refine ag (fun _=>?_) (fun _=>?_)
 refine ag (fun J=>?_) (fun J=>?_)
 · replace J:(6<deep)∨(n- 1<0):=((dq J).imp (fun q=>(of_decide_eq_true q)) (fun q=>(of_decide_eq_true q)))
   refine rt rfl fun _=>?_
   show K (.bool false) (ae.aS m [(p, .cells [.int .i64 (n- 1)])])
   rw [eQ,if_pos (by omega)] at U;exact U
 replace J:(deep≤6)∧(0≤n- 1):=⟨(Int.not_lt.1 (of_decide_eq_false (cb J))),(Int.not_lt.1 (of_decide_eq_false (dp J)))⟩
 refine aB ?_
 refine bN ?_
 refine cH (σ:=Int×Int) [] [1,2,3,25,26,27] 2 (fun ⟨i,nl⟩=>([(1,ax deep),(2, .loc 0 0),(3, .loc 1 0),(25,aH (v.l.map cn)),(26,ax (v.l.length:Int)),(27,ax i)],[.cells [ax nl], .cells [ax v.kind,ax v.n,ay v.s,aH (v.l.map cn),aH (v.f.map cB)]],m)) (fun ⟨i,nl⟩=>0≤i∧i≤v.l.length∧0≤nl∧nl≤60∧h5 (eQ k (deep+1)) v.l (n- 1)=h5 (eQ k (deep+1)) (v.l.drop i.toNat) nl) (fun ⟨i,nl⟩=>v.l.length- i.toNat) (0,n- 1) ⟨rfl,rfl⟩ ?_ ?_
 · try dsimp only
   exact ⟨by omega,by omega,by omega,by omega,rfl⟩
 rintro ⟨i,nl⟩ aE
 dsimp only at aE
 refine aB ?_
 refine ag (fun aa=>?_) (fun aa=>?_)
 · refine aB ?_
   refine fc cV h4 (by omega) ?_
   refine ag (by omega) ?_
   refine dw [0] [.cells [ax ((eQ k (deep+1) (I v.l i) nl).2)]] (jx ((eQ k (deep+1) (I v.l i) nl).1)) rfl (fun bs ai gd=>aO (I v.l i) (deep+1) nl (by have:=ha v;first|(have:=hH (bF (l:=v.l) (i:=i) aE.1 (by assumption));omega)|(have:=hI (bF (l:=v.f) (i:=i2) bK.1 (by assumption));omega)) (by omega) (by omega) (by omega) (by omega) (bs.getD 0 0) ai gd) ?_
   refine ag (fun aj=>?_) (fun aj=>?_)
   · refine ag (by omega) ?_
     refine ⟨(i+1,(eQ k (deep+1) (I v.l i) nl).2),⟨rfl,rfl⟩,?_,?_⟩
     · try dsimp only
       have q:=rV k (deep+1) (I v.l i) nl aE.2.2.1 aj
       exact ⟨by omega,by omega,by omega,by omega,by rw [aE.2.2.2.2,AL aE.1 aa,if_pos aj]⟩
     try dsimp only
     omega
   refine rt rfl fun _=>?_
   show K (.bool false) (ae.aS m [(p, .cells [.int .i64 ((eQ k (deep+1) (I v.l i) nl).2)])])
   have e:eQ (k+1) deep v n=(false,(eQ k (deep+1) (I v.l i) nl).2):=Se (by omega) (by rw [aE.2.2.2.2,AL aE.1 aa,if_neg (by simp [aj])])
   rw [e] at U;exact U
 refine aB ?_
 refine bN ?_
 refine cH (σ:=Int×Int) [] [1,2,39,40,41] 2 (fun ⟨i2,lr⟩=>([(1,ax deep),(2, .loc 0 0),(39,aH (v.f.map cB)),(40,ax (v.f.length:Int)),(41,ax i2)],[.cells [ax lr], .cells [ax v.kind,ax v.n,ay v.s,aH (v.l.map cn),aH (v.f.map cB)]],m)) (fun ⟨i2,lr⟩=>0≤i2∧i2≤v.f.length∧0≤lr∧lr≤60∧eQ (k+1) deep v n=h5 (fun p=>eQ k (deep+1) p.2) (v.f.drop i2.toNat) lr) (fun ⟨i2,lr⟩=>v.f.length- i2.toNat) (0,nl) ⟨rfl,rfl⟩ ?_ ?_
 · try dsimp only
   have e:h5 (eQ k (deep+1)) v.l (n- 1)=(true,nl):=by rw [aE.2.2.2.2,List.drop_eq_nil_of_le (by omega)];rfl
   exact ⟨by omega,by omega,by omega,by omega,by rw [Sf (by omega) e];rfl⟩
 rintro ⟨i2,lr⟩ bK
 dsimp only at bK
 refine aB ?_
 refine ag (fun aG=>?_) (fun aG=>?_)
 · refine aB ?_
   refine fc h3 hT (by omega) ?_
   refine ag (by omega) ?_
   refine dw [0] [.cells [ax ((eQ k (deep+1) ((I v.f i2).2) lr).2)]] (jx ((eQ k (deep+1) ((I v.f i2).2) lr).1)) rfl (fun bs ai gd=>aO ((I v.f i2).2) (deep+1) lr (by have:=ha v;first|(have:=hH (bF (l:=v.l) (i:=i) aE.1 (by assumption));omega)|(have:=hI (bF (l:=v.f) (i:=i2) bK.1 (by assumption));omega)) (by omega) (by omega) (by omega) (by omega) (bs.getD 0 0) ai gd) ?_
   refine ag (fun aR=>?_) (fun aR=>?_)
   · refine ag (by omega) ?_
     refine ⟨(i2+1,(eQ k (deep+1) ((I v.f i2).2) lr).2),⟨rfl,rfl⟩,?_,?_⟩
     · try dsimp only
       have q:=rV k (deep+1) (I v.f i2).2 lr bK.2.2.1 aR
       exact ⟨by omega,by omega,by omega,by omega,by rw [bK.2.2.2.2,AL bK.1 aG,if_pos aR]⟩
     try dsimp only
     omega
   refine rt rfl fun _=>?_
   show K (.bool false) (ae.aS m [(p, .cells [.int .i64 ((eQ k (deep+1) ((I v.f i2).2) lr).2)])])
   have e:eQ (k+1) deep v n=(false,(eQ k (deep+1) (I v.f i2).2 lr).2):=by
    rw [bK.2.2.2.2,AL bK.1 aG,if_neg (by simp [aR])]
   rw [e] at U;exact U
 refine rt rfl fun _=>?_
 show K (.bool true) (ae.aS m [(p, .cells [.int .i64 lr])])
 have e:eQ (k+1) deep v n=(true,lr):=by rw [bK.2.2.2.2,List.drop_eq_nil_of_le (by omega)];rfl
 rw [e] at U;exact U
theorem Js:∀(k:Nat) (v:aW) (deep n:Int),bI v<k→1≤deep→deep≤7→0≤n→n≤60→∀(b:Nat) (m:ae),eC [b] m→∀(K:ab→ae→Prop),K (.bool (eQ k deep v n).1) (ae.aS m [(b, .cells [.int .i64 (eQ k deep v n).2])])→bh Tryz.prog 159 [cV v, .int .i64 deep, .ptr ⟨b,0,none⟩] (ae.aS m [(b, .cells [.int .i64 n])]) K
 |0,_,_,_,h=>absurd h (Nat.not_lt_zero _)
 |k+1,v,deep,n,h=>fun J cD aJ bu b m gd K U=>Sk k v deep n b (Js k) h J cD aJ bu m gd K U
set_option maxHeartbeats 8000000 in
theorem Sl (k:Nat) (v:aW) (aO:∀(w:aW),bI w<k→∀(m:ae) (K:ab→ae→Prop),K (.err 115 (lq (dC k w))) m→bh Tryz.prog 160 [cV w] m K) (aY:bI v<k+1) (m:ae) (K:ab→ae→Prop) (U:K (.err 115 (lq (dC (k+1) v))) m):bh Tryz.prog 160 [cV v] m K:=by
 refine enter (c:=cT [] [0,19] [5,7,9,11,13,15,19] [] [] []) (vs:=[.aI (cV v)]) (L:=[]) (m:=m) true b2 Tryz.mixed Tryz.func160 rfl (k:=1) (by show cO [] _ _ _=true;decide+kernel) rfl (Good.nil m) ?_
 refine ⟨fun bJ=>?_⟩
 have o6:v.s.length≤140737488355328:=(bJ 0 2 (Nat.le_of_ble_eq_true rfl))
 have kq:v.l.length≤140737488355328:=dr (bJ 0 3 (Nat.le_of_ble_eq_true rfl))
 have mC:v.f.length≤140737488355328:=dr (bJ 0 4 (Nat.le_of_ble_eq_true rfl))
 refine rN (σ:=Bool) [(3,0)] [1,3] 1 (fun ok=>([(1, .loc 0 0),(3,jx ok)],[.cells [ax v.kind,ax v.n,ay v.s,aH (v.l.map cn),aH (v.f.map cB)]],m)) (fun ok=>ok=fK v) ?_ ?_
 · rintro ok mG
   refine aB ?_
   refine ag (fun J=>?_) (fun J=>?_)
   · refine aB ?_
     refine bN ?_
     refine cH (σ:=Int) [] [1,170,171,172] 1 (fun i=>([(1, .loc 0 0),(170,aH (v.l.map cn)),(171,ax (v.l.length:Int)),(172,ax i)],[.cells [ax v.kind,ax v.n,ay v.s,aH (v.l.map cn),aH (v.f.map cB)]],m)) (fun i=>0≤i∧i≤v.l.length∧v.l.all (dC k)=(v.l.drop i.toNat).all (dC k)) (fun i=>v.l.length- i.toNat) (0) ⟨rfl,rfl⟩ ?_ ?_
     · try dsimp only
       exact ⟨by omega,by omega,rfl⟩
     rintro i aE
     refine aB ?_
     refine ag (fun aa=>?_) (fun aa=>?_)
     · refine aB ?_
       refine fc cV h4 (by omega) ?_
       refine cG (fun _=>aO (I v.l i) (by have:=ha v;first|(have:=hH (bF (l:=v.l) (i:=i) aE.1 (by assumption));omega)|(have:=hI (bF (l:=v.f) (i:=i2) bK.1 (by assumption));omega))) rfl ?_
       refine ag (fun aj=>?_) (fun aj=>?_)
       · refine ag (by omega) ?_
         refine ⟨(i+1),⟨rfl,rfl⟩,?_,?_⟩
         · try dsimp only
           exact ⟨by omega,by omega,by rw [aE.2.2,rW aE.1 aa,Em aj,Bool.true_and]⟩
         try dsimp only
         omega
       refine bn rfl fun _=>?_
       show K (.err 115 3) m
       rw [Sh (by rw [aE.2.2,rW aE.1 aa,Jr aj,Bool.false_and])] at U;exact U
     refine aB ?_
     refine bN ?_
     refine cH (σ:=Int) [] [182,183,184] 1 (fun i2=>([(182,aH (v.f.map cB)),(183,ax (v.f.length:Int)),(184,ax i2)],[.cells [ax v.kind,ax v.n,ay v.s,aH (v.l.map cn),aH (v.f.map cB)]],m)) (fun i2=>0≤i2∧i2≤v.f.length∧v.f.all (fun p=>dC k p.2)=(v.f.drop i2.toNat).all (fun p=>dC k p.2)) (fun i2=>v.f.length- i2.toNat) (0) ⟨rfl,rfl⟩ ?_ ?_
     · try dsimp only
       exact ⟨by omega,by omega,rfl⟩
     rintro i2 bK
     refine aB ?_
     refine ag (fun aG=>?_) (fun aG=>?_)
     · refine aB ?_
       refine fc h3 hT (by omega) ?_
       refine cG (fun _=>aO ((I v.f i2).2) (by have:=ha v;first|(have:=hH (bF (l:=v.l) (i:=i) aE.1 (by assumption));omega)|(have:=hI (bF (l:=v.f) (i:=i2) bK.1 (by assumption));omega))) rfl ?_
       refine ag (fun aR=>?_) (fun aR=>?_)
       · refine ag (by omega) ?_
         refine ⟨(i2+1),⟨rfl,rfl⟩,?_,?_⟩
         · try dsimp only
           exact ⟨by omega,by omega,by rw [bK.2.2,rW (g:=fun p:ar×aW=>dC k p.2) bK.1 aG,Em aR,Bool.true_and]⟩
         try dsimp only
         omega
       refine bn rfl fun _=>?_
       show K (.err 115 3) m
       rw [Si (by rw [bK.2.2,rW (g:=fun p:ar×aW=>dC k p.2) bK.1 aG,Jr aR,Bool.false_and])] at U;exact U
     refine bn rfl fun _=>?_
     show K (.err 115 0) m
     rw [Sj (by rw [←mG,J]) (by rw [aE.2.2,List.drop_eq_nil_of_le (by omega)];rfl) (by rw [bK.2.2,List.drop_eq_nil_of_le (by omega)];rfl)] at U;exact U
   refine bn rfl fun _=>?_
   show K (.err 115 3) m
   rw [Sg (by rw [←mG,J])] at U;exact U
 refine ag (fun bu=>?_) (fun bu=>?_)
 · refine cf [1] 3 (((v.n==0)&&(v.s==([])))&&(((v.l.length:Int)+(v.f.length:Int))==0)) ?_ ?_
   · repeat' first
      |exact ⟨⟨_,rfl,by grind [bD.val]⟩,rfl⟩
      |refine ag (fun _=>?_) (fun _=>?_)
      |refine bN ?_
      |refine ag (by omega) ?_
   refine ⟨((((v.n==0)&&(v.s==([])))&&(((v.l.length:Int)+(v.f.length:Int))==0))),⟨rfl,rfl⟩,?_⟩
   unfold fK
   repeat' split
   all_goals first|omega|rfl
 refine ag (fun cD=>?_) (fun cD=>?_)
 · refine cf [1] 3 ((((decide (-1000000000≤v.n))&&(decide (v.n≤1000000000)))&&(v.s==([])))&&(((v.l.length:Int)+(v.f.length:Int))==0)) ?_ ?_
   · repeat' first
      |exact ⟨⟨_,rfl,by grind [bD.val]⟩,rfl⟩
      |refine ag (fun _=>?_) (fun _=>?_)
      |refine bN ?_
      |refine ag (by omega) ?_
   refine ⟨(((((decide (-1000000000≤v.n))&&(decide (v.n≤1000000000)))&&(v.s==([])))&&(((v.l.length:Int)+(v.f.length:Int))==0))),⟨rfl,rfl⟩,?_⟩
   unfold fK
   repeat' split
   all_goals first|omega|rfl
 refine ag (fun cK=>?_) (fun cK=>?_)
 · refine cf [1] 3 (((v.n==0)&&(decide ((v.s.length:Int)≤40)))&&(((v.l.length:Int)+(v.f.length:Int))==0)) ?_ ?_
   · repeat' first
      |exact ⟨⟨_,rfl,by grind [bD.val]⟩,rfl⟩
      |refine ag (fun _=>?_) (fun _=>?_)
      |refine bN ?_
      |refine ag (by omega) ?_
   refine ⟨((((v.n==0)&&(decide ((v.s.length:Int)≤40)))&&(((v.l.length:Int)+(v.f.length:Int))==0))),⟨rfl,rfl⟩,?_⟩
   unfold fK
   repeat' split
   all_goals first|omega|rfl
 refine ag (fun cC=>?_) (fun cC=>?_)
 · refine cf [1] 3 ((((v.n==0)||(v.n==1))&&(v.s==([])))&&(((v.l.length:Int)+(v.f.length:Int))==0)) ?_ ?_
   · repeat' first
      |exact ⟨⟨_,rfl,by grind [bD.val]⟩,rfl⟩
      |refine ag (fun _=>?_) (fun _=>?_)
      |refine bN ?_
      |refine ag (by omega) ?_
   refine ⟨(((((v.n==0)||(v.n==1))&&(v.s==([])))&&(((v.l.length:Int)+(v.f.length:Int))==0))),⟨rfl,rfl⟩,?_⟩
   unfold fK
   repeat' split
   all_goals first|omega|rfl
 refine ag (fun eg=>?_) (fun eg=>?_)
 · refine cf [1] 3 (((v.n==0)&&(v.s==([])))&&((v.f.length:Int)==0)) ?_ ?_
   · repeat' first
      |exact ⟨⟨_,rfl,by grind [bD.val]⟩,rfl⟩
      |refine ag (fun _=>?_) (fun _=>?_)
      |refine bN ?_
   refine ⟨((((v.n==0)&&(v.s==([])))&&((v.f.length:Int)==0))),⟨rfl,rfl⟩,?_⟩
   unfold fK
   repeat' split
   all_goals first|omega|rfl
 refine ag (fun fJ=>?_) (fun fJ=>?_)
 · refine cf [1] 3 (((v.n==0)&&(v.s==([])))&&((v.l.length:Int)==0)) ?_ ?_
   · repeat' first
      |exact ⟨⟨_,rfl,by grind [bD.val]⟩,rfl⟩
      |refine ag (fun _=>?_) (fun _=>?_)
      |refine bN ?_
   refine bN ?_
   refine cH (σ:=Bool×Int) [(3,0)] [1,3,136,137,138] 1 (fun ⟨ok,i⟩=>([(1, .loc 0 0),(3,jx ok),(136,aH (v.f.map cB)),(137,ax (v.f.length:Int)),(138,ax i)],[.cells [ax v.kind,ax v.n,ay v.s,aH (v.l.map cn),aH (v.f.map cB)]],m)) (fun ⟨ok,i⟩=>0≤i∧i≤v.f.length∧fK v=(ok&&lp (tm v.f i) (v.f.drop i.toNat))) (fun ⟨ok,i⟩=>v.f.length- i.toNat) ((((v.n==0)&&(v.s==([])))&&((v.l.length:Int)==0)),0) ⟨rfl,rfl⟩ ?_ ?_
   · try dsimp only
     refine ⟨by omega,by omega,?_⟩
     unfold fK
     rw [if_neg (by assumption),if_neg (by assumption),if_neg (by assumption),if_neg (by assumption),if_neg (by assumption),if_pos (by assumption)]
     rfl
   rintro ⟨ok,i⟩ aE
   dsimp only at aE
   refine aB ?_
   refine ag (fun fL=>?_) (fun fL=>?_)
   · refine aB ?_
     refine fc h3 hT (by omega) ?_
     refine ⟨fun Sm=>?_⟩
     have Sn:(I v.f i).1.length≤140737488355328:=HO (f:=cB) (Sm 136).2 (bF aE.1 fL) 0 (Nat.succ_pos _)
     refine cf [1,136,137,138] 3 ((ok&&(cu ((I v.f i).1)))&&((i==0)||(Op.bytesLess ((I v.f (i- 1)).1) ((I v.f i).1)))) ?_ ?_
     · repeat' first
        |exact ⟨⟨_,rfl,by grind [bD.val]⟩,rfl⟩
        |refine ag (fun _=>?_) (fun _=>?_)
        |refine gN (fun _=>rT ((I v.f i).1) Sn) ?_
        |refine ag (by omega) ?_
        |refine fc h3 hT (by omega) ?_
     refine ag (by omega) ?_
     refine ⟨(((ok&&(cu ((I v.f i).1)))&&((i==0)||(Op.bytesLess ((I v.f (i- 1)).1) ((I v.f i).1)))),i+1),⟨rfl,rfl⟩,?_,?_⟩
     · try dsimp only
       exact ⟨by omega,by omega,by rw [aE.2.2,AK aE.1 fL];simp only [Bool.and_assoc]⟩
     try dsimp only
     omega
   refine ⟨(ok),⟨rfl,rfl⟩,?_⟩
   rw [aE.2.2,List.drop_eq_nil_of_le (by omega)];simp [lp]
 refine ⟨(false),⟨rfl,rfl⟩,?_⟩
 unfold fK
 repeat' split
 all_goals first|omega|rfl
theorem Jt:∀(k:Nat) (v:aW),bI v<k→∀(m:ae) (K:ab→ae→Prop),K (.err 115 (lq (dC k v))) m→bh Tryz.prog 160 [cV v] m K
 |0,_,h=>absurd h (Nat.not_lt_zero _)
 |k+1,v,h=>fun m K U=>Sl k v (Jt k) h m K U
set_option maxHeartbeats 2000000 in
theorem Ju (v:aW) (m:ae) (K:ab→ae→Prop) (U:K (.err 115 (b1 v)) m):bh Tryz.prog 92 [cV v] m K:=by
 refine enter (c:=cT [] [] [] [] [] []) (vs:=[.aI (cV v)]) (L:=[]) (m:=m) true b2 Tryz.mixed Tryz.func92 rfl (k:=1) (by show cO [] _ _ _=true;decide+kernel) rfl (Good.nil m) ?_
 refine aB ?_
 refine dw [1] [.cells [ax ((eQ (bI v+1) 1 v 60).2)]] (jx ((eQ (bI v+1) 1 v 60).1)) rfl (fun bs ai gd=>Js (bI v+1) v 1 60 (Nat.lt_succ_self _) (by omega) (by omega) (by omega) (by omega) (bs.getD 1 0) ai gd) ?_
 refine ag (fun J=>?_) (fun J=>?_)
 · refine cG (fun _=>Jt (bI v+1) v (Nat.lt_succ_self _)) rfl ?_
   have bM:b1 v=(lq (dC (bI v+1) v):Int):=by
    first|(rw [b1,if_pos (by assumption)];done)|(rw [b1,if_neg (by simp_all)];done)
   rw [bM] at U
   exact bn rfl fun _=>U
 have bM:b1 v=(2:Int):=by
  first|(rw [b1,if_pos (by assumption)];done)|(rw [b1,if_neg (by simp_all)];done)
 rw [bM] at U
 exact bn rfl fun _=>U
set_option maxHeartbeats 4000000 in
theorem Sp (a b:aW) (aO:∀v w:aW,bI v<bI a→∀(m:ae) (K:ab→ae→Prop),K (.bool (hy v w)) m→bh Tryz.prog 117 [cV v,cV w] m K) (m:ae) (K:ab→ae→Prop) (U:K (.bool (hy a b)) m):bh Tryz.prog 117 [cV a,cV b] m K:=by
 refine enter (c:=cT [] [0] [1,12] [] [] []) (vs:=[.aI (cV a), .aI (cV b)]) (L:=[]) (m:=m) false b2 Tryz.mixed Tryz.func117 rfl (k:=2) (by show cO [] _ _ _=true;decide+kernel) rfl (Good.nil m) ?_
 refine ⟨fun bJ=>?_⟩
 have o6:a.s.length≤140737488355328:=(bJ 0 2 (Nat.le_of_ble_eq_true rfl))
 have kq:a.l.length≤140737488355328:=dr (bJ 0 3 (Nat.le_of_ble_eq_true rfl))
 have mC:a.f.length≤140737488355328:=dr (bJ 0 4 (Nat.le_of_ble_eq_true rfl))
 have Jv:b.s.length≤140737488355328:=(bJ 1 2 (Nat.le_of_ble_eq_true rfl))
 have AN:b.l.length≤140737488355328:=dr (bJ 1 3 (Nat.le_of_ble_eq_true rfl))
 have AO:b.f.length≤140737488355328:=dr (bJ 1 4 (Nat.le_of_ble_eq_true rfl))
 refine aB ?_
 refine cf [2,3] 43 (((((!(a.kind==b.kind))||(!(a.n==b.n)))||(!(a.s==b.s)))||(!((a.l.length:Int)==(b.l.length:Int))))||(!((a.f.length:Int)==(b.f.length:Int)))) ?_ ?_
 · repeat' first
    |exact ⟨⟨_,rfl,by grind [bD.val]⟩,rfl⟩
    |refine ag (fun _=>?_) (fun _=>?_)
    |refine bN ?_
 refine ag (fun J=>?_) (fun J=>?_)
 · replace J:((((a.kind≠b.kind)∨(a.n≠b.n))∨(a.s≠b.s))∨((a.l.length:Int)≠(b.l.length:Int)))∨((a.f.length:Int)≠(b.f.length:Int)):=((dq J).imp (fun q=>((dq q).imp (fun q=>((dq q).imp (fun q=>((dq q).imp (fun q=>(ne_of_beq_false (dz q))) (fun q=>(ne_of_beq_false (dz q))))) (fun q=>(ne_of_beq_false (dz q))))) (fun q=>(ne_of_beq_false (dz q))))) (fun q=>(ne_of_beq_false (dz q))))
   refine bn rfl fun _=>?_
   show K (.bool false) m
   rw [vu (by intro aC;subst aC;simp at J)] at U;exact U
 replace J:((((a.kind=b.kind)∧(a.n=b.n))∧(a.s=b.s))∧((a.l.length:Int)=(b.l.length:Int)))∧((a.f.length:Int)=(b.f.length:Int)):=⟨⟨⟨⟨(eq_of_beq (du (cb (cb (cb (cb J)))))),(eq_of_beq (du (dp (cb (cb (cb J))))))⟩,(eq_of_beq (du (dp (cb (cb J)))))⟩,(eq_of_beq (du (dp (cb J))))⟩,(eq_of_beq (du (dp J)))⟩
 obtain ⟨⟨⟨⟨al,aM⟩,aw⟩,av⟩,aZ⟩:=J
 refine aB ?_
 refine bN ?_
 refine cH (σ:=Int) [] [2,3,46,47] 2 (fun i=>([(2, .loc 0 0),(3, .loc 1 0),(46,ax (a.l.length:Int)),(47,ax i)],[.cells [ax a.kind,ax a.n,ay a.s,aH (a.l.map cn),aH (a.f.map cB)], .cells [ax b.kind,ax b.n,ay b.s,aH (b.l.map cn),aH (b.f.map cB)]],m)) (fun i=>0≤i∧i≤a.l.length∧a.l.take i.toNat=b.l.take i.toNat) (fun i=>a.l.length- i.toNat) (0) ⟨rfl,rfl⟩ ?_ ?_
 · try dsimp only
   exact ⟨by omega,by omega,rfl⟩
 rintro i aE
 refine aB ?_
 refine ag (fun aa=>?_) (fun aa=>?_)
 · refine aB ?_
   refine fc cV h4 (by omega) ?_
   refine fc cV h4 (by omega) ?_
   refine gN (fun _=>aO (I a.l i) (I b.l i) (by have:=ha a;first|(have:=hH (bF (l:=a.l) (i:=i) aE.1 (by assumption));omega)|(have:=hI (bF (l:=a.f) (i:=i2) bK.1 (by assumption));omega))) ?_
   refine ag (fun aj=>?_) (fun aj=>?_)
   · refine ag (by omega) ?_
     refine ⟨(i+1),⟨rfl,rfl⟩,?_,?_⟩
     · try dsimp only
       exact ⟨by omega,by omega,by rw [iM aE.1 aa,iM aE.1 (by omega),aE.2.2,tl.1 aj]⟩
     try dsimp only
     omega
   refine bn rfl fun _=>?_
   show K (.bool false) m
   rw [vu (by intro aC;subst aC;rw [rU rfl] at aj;cases aj)] at U;exact U
 refine aB ?_
 refine bN ?_
 refine cH (σ:=Int) [] [2,3,65,66] 2 (fun i2=>([(2, .loc 0 0),(3, .loc 1 0),(65,ax (a.f.length:Int)),(66,ax i2)],[.cells [ax a.kind,ax a.n,ay a.s,aH (a.l.map cn),aH (a.f.map cB)], .cells [ax b.kind,ax b.n,ay b.s,aH (b.l.map cn),aH (b.f.map cB)]],m)) (fun i2=>0≤i2∧i2≤a.f.length∧a.f.take i2.toNat=b.f.take i2.toNat) (fun i2=>a.f.length- i2.toNat) (0) ⟨rfl,rfl⟩ ?_ ?_
 · try dsimp only
   exact ⟨by omega,by omega,rfl⟩
 rintro i2 bK
 refine aB ?_
 refine ag (fun aG=>?_) (fun aG=>?_)
 · refine aB ?_
   refine cf [2,3,65,66] 97 ((!(((I a.f i2).1)==((I b.f i2).1)))||(!(hy ((I a.f i2).2) ((I b.f i2).2)))) ?_ ?_
   · repeat' first
      |exact ⟨⟨_,rfl,by grind [bD.val]⟩,rfl⟩
      |refine ag (fun _=>?_) (fun _=>?_)
      |refine fc h3 hT (by omega) ?_
      |refine gN (fun _=>aO ((I a.f i2).2) ((I b.f i2).2) (by have:=ha a;first|(have:=hH (bF (l:=a.l) (i:=i) aE.1 (by assumption));omega)|(have:=hI (bF (l:=a.f) (i:=i2) bK.1 (by assumption));omega))) ?_
   refine ag (fun aR=>?_) (fun aR=>?_)
   · replace aR:((I a.f i2).1≠(I b.f i2).1)∨(hy ((I a.f i2).2) ((I b.f i2).2)=false):=((dq aR).imp (fun q=>(ne_of_beq_false (dz q))) (fun q=>(dz q)))
     refine bn rfl fun _=>?_
     show K (.bool false) m
     rw [vu (by intro aC;subst aC;rw [rU rfl] at aR;simp at aR)] at U;exact U
   replace aR:((I a.f i2).1=(I b.f i2).1)∧(hy ((I a.f i2).2) ((I b.f i2).2)=true):=⟨(eq_of_beq (du (cb aR))),(du (dp aR))⟩
   refine ag (by omega) ?_
   refine ⟨(i2+1),⟨rfl,rfl⟩,?_,?_⟩
   · try dsimp only
     exact ⟨by omega,by omega,by rw [iM bK.1 aG,iM bK.1 (by omega),bK.2.2,Prod.ext aR.1 (tl.1 aR.2)]⟩
   try dsimp only
   omega
 refine bn rfl fun _=>?_
 show K (.bool true) m
 rw [rU (aW.ext' al aM aw (by have:=aE.2.2;rwa [iN (by omega),iN (by omega)] at this) (by have:=bK.2.2;rwa [iN (by omega),iN (by omega)] at this))] at U;exact U
theorem Jw:∀(n:Nat) (a b:aW),bI a<n→∀(m:ae) (K:ab→ae→Prop),K (.bool (hy a b)) m→bh Tryz.prog 117 [cV a,cV b] m K
 |0,_,_,h=>absurd h (Nat.not_lt_zero _)
 |n+1,a,b,h=>fun m K U=>Sp a b (fun v w bw=>Jw n v w (by omega)) m K U
theorem Sq (a b:aW) (m:ae) (K:ab→ae→Prop) (U:K (.bool (hy a b)) m):bh Tryz.prog 117 [cV a,cV b] m K:=Jw (bI a+1) a b (Nat.lt_succ_self _) m K U
end Go.Proofs
end
section
namespace Go.Proofs
open Go Go.bg Go.cz
set_option maxRecDepth 100000
def ja {α:Type} (g:α→Int) (l:List α) (d:Int):Int:=l.foldl (fun d x=>if g x>d then g x else d) d
def fQ:Nat→aW→Int
 |0,_=>0
 |k+1,v=>ja (fun p=>fQ k p.2) v.f (ja (fQ k) v.l 0)+1
theorem Jx {α:Type} [Inhabited α] (g:α→Int) {l:List α} {i:Int} (d:Int) (aJ:0≤i) (ad:i<l.length):ja g (l.take (i+1).toNat) d=if g (I l i)>ja g (l.take i.toNat) d then g (I l i) else ja g (l.take i.toNat) d:=by
 rw [iM aJ ad];unfold ja;rw [List.foldl_append];rfl
theorem yn {α:Type} (g:α→Int) (B:Int):∀(l:List α) (d:Int),(ja g l d≤B↔d≤B∧∀x∈l,g x≤B)
 |[],d=>by simp [ja]
 |x::r,d=>by
  rw [show ja g (x::r) d=ja g r (if g x>d then g x else d) from rfl,yn g B r]
  simp only [List.mem_cons,forall_eq_or_imp]
  split<;>constructor<;>(intro h;refine ⟨?_,?_⟩)<;>first|omega|exact h.2|(refine ⟨?_,?_⟩<;>first|omega|exact h.2)|exact h.2.2
theorem En {α:Type} (g:α→Int):∀(l:List α) (d:Int),d≤ja g l d
 |[],d=>Int.le_refl _
 |x::r,d=>by
  rw [show ja g (x::r) d=ja g r (if g x>d then g x else d) from rfl]
  refine Int.le_trans ?_ (En g r (if g x>d then g x else d))
  split<;>omega
theorem Jy {α:Type} [Inhabited α] (g:α→Nat) {l:List α} {i:Int} (aJ:0≤i) (ad:i<l.length):hb g (l.take (i+1).toNat)=hb g (l.take i.toNat)+g (I l i):=by
 have e:∀(a b:List α),hb g (a++b)=hb g a+hb g b:=fun a b=>by
  induction a with
  |nil=>simp [hb]
  |cons x r aO=>simp only [List.cons_append,hb,aO];omega
 rw [iM aJ ad,e];simp [hb]
theorem AP {α:Type} (g:α→Nat) (l:List α) (k:Nat):hb g (l.take k)≤hb g l:=by
 induction l generalizing k with
 |nil=>simp
 |cons x r aO=>
  cases k with
  |zero=>simp [hb]
  |succ k=>rw [List.take_succ_cons,hb,hb];have:=aO k;omega
theorem yo:∀(k:Nat) (v:aW),bI v<k→1≤fQ k v∧fQ k v≤bI v
 |0,_,h=>absurd h (Nat.not_lt_zero _)
 |k+1,v,h=>by
  have e:=ha v
  rw [fQ]
  have J:=En (fQ k) v.l 0
  have aa:=En (fun p:ar×aW=>fQ k p.2) v.f (ja (fQ k) v.l 0)
  refine ⟨by omega,?_⟩
  have a:ja (fQ k) v.l 0≤(bI v:Int)- 1:=(yn _ _ _ _).2 ⟨by omega,fun x an=>by
   have q:=hH an;have:=(yo k x (by omega)).2;omega⟩
  have b:ja (fun p:ar×aW=>fQ k p.2) v.f (ja (fQ k) v.l 0)≤(bI v:Int)- 1:=(yn _ _ _ _).2 ⟨a,fun x an=>by
   have q:=hI an;have:=(yo k x.2 (by omega)).2;omega⟩
  omega
theorem Eo {α:Type} {g:α→Int→Bool×Int} {d:α→Nat} {h:α→Prop}:∀(l:List α) (n:Int),0≤n→(∀x∈l,∀n,0≤n→((g x n).1=true↔(d x:Int)≤n∧h x))→(∀x n,0≤n→(g x n).1=true→0≤(g x n).2∧(g x n).2+d x=n)→((h5 g l n).1=true↔(hb d l:Int)≤n∧∀x∈l,h x)
 |[],n,aJ,_,_=>by simp [h5,hb,aJ]
 |x::r,n,aJ,bc,al=>by
  rw [h5,hb]
  have an:=bc x (List.mem_cons_self ..) n aJ
  by_cases c:(g x n).1=true
  · have q:=al x n aJ c
    rw [if_pos c,Eo r _ q.1 (fun y aK=>bc y (List.mem_cons_of_mem _ aK)) al]
    have:=an.1 c
    simp only [List.mem_cons,forall_eq_or_imp]
    constructor
    · intro z;exact ⟨by push_cast;omega,this.2,z.2⟩
    · intro z;exact ⟨by have:=z.1;push_cast at this;omega,z.2.2⟩
  · rw [if_neg c]
    simp only [Bool.false_eq_true,false_iff]
    intro z
    exact c (an.2 ⟨by have:=z.1;push_cast at this;omega,z.2 x (List.mem_cons_self ..)⟩)
theorem Ep:∀(k:Nat) (deep:Int) (v:aW) (n:Int),bI v<k→0≤n→1≤deep→((eQ k deep v n).1=true↔(bI v:Int)≤n∧deep+fQ k v≤7)
 |0,_,_,_,h,_,_=>absurd h (Nat.not_lt_zero _)
 |k+1,deep,v,n,h,aJ,J=>by
  have e:=ha v
  have aC:=yo (k+1) v h
  have Sr:∀x∈v.l,∀n,0≤n→((eQ k (deep+1) x n).1=true↔(bI x:Int)≤n∧(fQ k x≤6- deep)):=fun x an n aM=>by
   have q:=hH an
   rw [Ep k (deep+1) x n (by omega) aM (by omega)]
   constructor<;>(intro z;exact ⟨z.1,by omega⟩)
  have Ss:∀x∈v.f,∀n,0≤n→((eQ k (deep+1) x.2 n).1=true↔(bI x.2:Int)≤n∧(fQ k x.2≤6- deep)):=fun x an n aM=>by
   have q:=hI an
   rw [Ep k (deep+1) x.2 n (by omega) aM (by omega)]
   constructor<;>(intro z;exact ⟨z.1,by omega⟩)
  have Jz:deep+fQ (k+1) v≤7↔deep≤6∧(∀x∈v.l,fQ k x≤6- deep)∧∀x∈v.f,fQ k x.2≤6- deep:=by
   rw [fQ]
   have a:=yn (fQ k) (6- deep) v.l 0
   have b:=yn (fun p:ar×aW=>fQ k p.2) (6- deep) v.f (ja (fQ k) v.l 0)
   constructor
   · intro z
     have hW:=b.1 (by omega)
     have ct:=a.1 hW.1
     exact ⟨by omega,ct.2,hW.2⟩
   · intro z
     have ct:=a.2 ⟨by omega,z.2.1⟩
     have hW:=b.2 ⟨ct,z.2.2⟩
     omega
  rw [Jz,eQ]
  have b9:=AH v.l
  have W8:=AI v.f
  by_cases c:6<deep∨n- 1<0
  · rw [if_pos c]
    simp only [Bool.false_eq_true,false_iff]
    intro z
    rcases c with c|c<;>omega
  · rw [if_neg c]
    have JA:=Eo (d:=bI) (h:=fun x=>fQ k x≤6- deep) v.l (n- 1) (by omega) Sr (fun x n aM an=>rV k (deep+1) x n aM an)
    by_cases c2:(h5 (eQ k (deep+1)) v.l (n- 1)).1=false
    · rw [if_pos c2]
      simp only [Bool.false_eq_true,false_iff]
      intro z
      have:(h5 (eQ k (deep+1)) v.l (n- 1)).1=true:=JA.2 ⟨by omega,z.2.2.1⟩
      rw [c2] at this;cases this
    · have c3:(h5 (eQ k (deep+1)) v.l (n- 1)).1=true:=by simpa using c2
      rw [if_neg c2]
      have a:=AJ (d:=bI) (g:=eQ k (deep+1)) (fun x n aM an=>rV k (deep+1) x n aM an) v.l (n- 1) (by omega) c3
      have i2:=Eo (g:=fun p:ar×aW=>eQ k (deep+1) p.2) (d:=fun p:ar×aW=>bI p.2) (h:=fun x=>fQ k x.2≤6- deep) v.f _ a.1 Ss (fun x n aM an=>rV k (deep+1) x.2 n aM an)
      rw [i2]
      have q:=JA.1 c3
      constructor
      · intro z;exact ⟨by omega,by omega,q.2,z.2⟩
      · intro z;exact ⟨by omega,z.2.2.2⟩
theorem Er {v:aW}:b1 v=if (60<(bI v:Int)∨6<fQ (bI v+1) v) then 2 else if dC (bI v+1) v=true then 0 else 3:=by
 have q:=Ep (bI v+1) 1 v 60 (Nat.lt_succ_self _) (by omega) (by omega)
 unfold b1
 by_cases c:(eQ (bI v+1) 1 v 60).1=true
 · have:=q.1 c
   rw [if_pos c,if_neg (by omega)];rfl
 · rw [if_neg c,if_pos (by
    refine Classical.byContradiction fun z=>c (q.2 ⟨by omega,by omega⟩))]
set_option maxHeartbeats 4000000 in
theorem St (k:Nat) (v:aW) (df:bI v≤1000000000000) (aO:∀w:aW,bI w<bI v→∀(m:ae) (K:ab→ae→Prop),K (.tuple [.int .i64 (bI w:Int), .int .i64 (fQ k w)]) m→bh Tryz.prog 145 [cV w] m K) (aY:bI v<k+1) (m:ae) (K:ab→ae→Prop) (U:K (.tuple [.int .i64 (bI v:Int), .int .i64 (fQ (k+1) v)]) m):bh Tryz.prog 145 [cV v] m K:=by
 have JB:=ha v
 have fN:=AH v.l
 have W9:=AI v.f
 refine enter (c:=cT [] [0] [] [] [] []) (vs:=[.aI (cV v)]) (L:=[]) (m:=m) false b2 Tryz.mixed Tryz.func145 rfl (k:=1) (by show cO [] _ _ _=true;decide+kernel) rfl (Good.nil m) ?_
 refine ⟨fun bJ=>?_⟩
 have o6:v.s.length≤140737488355328:=(bJ 0 2 (Nat.le_of_ble_eq_true rfl))
 have kq:v.l.length≤140737488355328:=dr (bJ 0 3 (Nat.le_of_ble_eq_true rfl))
 have mC:v.f.length≤140737488355328:=dr (bJ 0 4 (Nat.le_of_ble_eq_true rfl))
 refine aB ?_
 refine cH (σ:=Int×Int×Int) [] [1,4,5,6] 1 (fun ⟨hK,d1,i⟩=>([(1, .loc 0 0),(4,ax hK),(5,ax d1),(6,ax i)],[.cells [ax v.kind,ax v.n,ay v.s,aH (v.l.map cn),aH (v.f.map cB)]],m)) (fun ⟨hK,d1,i⟩=>0≤i∧i≤v.l.length∧hK=1+hb bI (v.l.take i.toNat)∧d1=ja (fQ k) (v.l.take i.toNat) 0∧0≤d1∧d1≤bI v) (fun ⟨hK,d1,i⟩=>v.l.length- i.toNat) (1,0,0) ⟨rfl,rfl⟩ ?_ ?_
 · try dsimp only
   exact ⟨by omega,by omega,by simp [hb],by simp [ja],by omega,by omega⟩
 rintro ⟨hK,d1,i⟩ aE
 dsimp only at aE
 have II:=AP bI v.l i.toNat
 refine aB ?_
 refine bN ?_
 refine ag (fun J=>?_) (fun J=>?_)
 · have Su:=hH (bF (l:=v.l) (i:=i) aE.1 J)
   have b4:=Jy bI (l:=v.l) aE.1 J
   have sK:=yo k (I v.l i) (by omega)
   have Xa:=AP bI v.l (i+1).toNat
   refine aB ?_
   refine fc cV h4 (by omega) ?_
   refine cG (fun _=>aO (I v.l i) (by have:=ha v;first|(have:=hH (bF (l:=v.l) (i:=i) aE.1 (by assumption));omega)|(have:=hI (bF (l:=v.f) (i:=i2) bK.1 (by assumption));omega))) rfl ?_
   refine ag (by omega) ?_
   refine ag (by omega) ?_
   refine ⟨(hK+(bI (I v.l i):Int),if fQ k (I v.l i)>d1 then fQ k (I v.l i) else d1,i+1),⟨rfl,rfl⟩,?_,?_⟩
   · try dsimp only
     refine ⟨by omega,by omega,by omega,?_,?_,?_⟩
     · rw [Jx _ _ aE.1 J,←aE.2.2.2.1]
     · split<;>omega
     · split<;>omega
   try dsimp only
   omega
 have Sv:v.l.take i.toNat=v.l:=iN J
 refine aB ?_
 refine cH (σ:=Int×Int×Int) [] [1,4,5,9] 1 (fun ⟨fw,d2,i2⟩=>([(1, .loc 0 0),(4,ax fw),(5,ax d2),(9,ax i2)],[.cells [ax v.kind,ax v.n,ay v.s,aH (v.l.map cn),aH (v.f.map cB)]],m)) (fun ⟨fw,d2,i2⟩=>0≤i2∧i2≤v.f.length∧fw=1+lV v.l+hb (fun p:ar×aW=>bI p.2) (v.f.take i2.toNat)∧d2=ja (fun p:ar×aW=>fQ k p.2) (v.f.take i2.toNat) (ja (fQ k) v.l 0)∧0≤d2∧d2≤bI v) (fun ⟨fw,d2,i2⟩=>v.f.length- i2.toNat) (hK,d1,0) ⟨rfl,rfl⟩ ?_ ?_
 · try dsimp only
   rw [Sv] at aE
   exact ⟨by omega,by omega,by simp [hb];omega,by simp [ja];exact aE.2.2.2.1,by omega,by omega⟩
 rintro ⟨fw,d2,i2⟩ bK
 dsimp only at bK
 have JC:=AP (fun p:ar×aW=>bI p.2) v.f i2.toNat
 refine aB ?_
 refine bN ?_
 refine ag (fun aa=>?_) (fun aa=>?_)
 · have Su:=hI (bF (l:=v.f) (i:=i2) bK.1 aa)
   have b4:=Jy (fun p:ar×aW=>bI p.2) (l:=v.f) bK.1 aa
   have sK:=yo k (I v.f i2).2 (by omega)
   have Xb:=AP (fun p:ar×aW=>bI p.2) v.f (i2+1).toNat
   refine aB ?_
   refine fc h3 hT (by omega) ?_
   refine cG (fun _=>aO ((I v.f i2).2) (by have:=ha v;first|(have:=hH (bF (l:=v.l) (i:=i) aE.1 (by assumption));omega)|(have:=hI (bF (l:=v.f) (i:=i2) bK.1 (by assumption));omega))) rfl ?_
   refine ag (by omega) ?_
   refine ag (by omega) ?_
   refine ⟨(fw+(bI ((I v.f i2).2):Int),if fQ k ((I v.f i2).2)>d2 then fQ k ((I v.f i2).2) else d2,i2+1),⟨rfl,rfl⟩,?_,?_⟩
   · try dsimp only
     refine ⟨by omega,by omega,by omega,?_,?_,?_⟩
     · rw [Jx (fun p:ar×aW=>fQ k p.2) _ bK.1 aa,←bK.2.2.2.1]
     · split<;>omega
     · split<;>omega
   try dsimp only
   omega
 refine ag (by omega) ?_
 refine bn rfl fun _=>?_
 show K (.tuple [.int .i64 fw, .int .i64 (d2+1)]) m
 have Sw:v.f.take i2.toNat=v.f:=iN aa
 rw [Sw] at bK
 have aF:fw=(bI v:Int):=by omega
 have az:d2+1=fQ (k+1) v:=by rw [fQ,←bK.2.2.2.1]
 rw [aF,az];exact U
theorem JD:∀(k:Nat) (v:aW),bI v<k→bI v≤1000000000000→∀(m:ae) (K:ab→ae→Prop),K (.tuple [.int .i64 (bI v:Int), .int .i64 (fQ k v)]) m→bh Tryz.prog 145 [cV v] m K
 |0,_,h=>absurd h (Nat.not_lt_zero _)
 |k+1,v,h=>fun df m K U=>St k v df (fun w hw=>JD k w (by omega) (by omega)) h m K U
set_option maxHeartbeats 2000000 in
theorem pT (s:ar) (m:ae) (K:ab→ae→Prop) (U:K (.bool (cu s)) m):bh Tryz.prog 41 [.str s] m K:=by
 refine enter (c:=cT [] [0] [1,6,7,8] [] [] []) (vs:=[.aI (.str s)]) (L:=[]) (m:=m) false b2 Tryz.mixed Tryz.func41 rfl (k:=1) (by show cO [] _ _ _=true;decide+kernel) rfl (Good.nil m) ?_
 refine ⟨fun bJ=>?_⟩
 have o7:s.length≤140737488355328:=bJ 0
 refine aB ?_
 refine cf [0] 13 ((decide ((s.length:Int)<1))||(decide (12<(s.length:Int)))) ?_ ?_
 · repeat' first
    |exact ⟨⟨_,rfl,by grind [bD.val]⟩,rfl⟩
    |refine ag (fun _=>?_) (fun _=>?_)
 refine ag (fun J=>?_) (fun J=>?_)
 · replace J:((s.length:Int)<1)∨(12<(s.length:Int)):=((dq J).imp (fun q=>(of_decide_eq_true q)) (fun q=>(of_decide_eq_true q)))
   refine bn rfl fun _=>cL U ?_
   show ab.bool (cu s)=ab.bool false
   refine congrArg ab.bool ?_
   rw [cu];cases s<;>simp_all<;>omega
 replace J:(1≤(s.length:Int))∧((s.length:Int)≤12):=⟨(Int.not_lt.1 (of_decide_eq_false (cb J))),(Int.not_lt.1 (of_decide_eq_false (dp J)))⟩
 refine aB ?_
 refine cH (σ:=Int) [] [0,3] 0 (fun i=>([(0,ay s),(3,ax i)],[],m)) (fun i=>0≤i∧i≤s.length∧mF s true=mF (s.drop i.toNat) (i==0)) (fun i=>s.length- i.toNat) (0) ⟨rfl,rfl⟩ ?_ ?_
 · try dsimp only
   exact ⟨by omega,by omega,by simp⟩
 rintro i aE
 refine aB ?_
 refine ag (fun aa=>?_) (fun aa=>?_)
 · refine aB ?_
   refine cf [0,3] 4 ((decide (97≤((I s i).toNat:Int)))&&(decide (((I s i).toNat:Int)≤122))) ?_ ?_
   · repeat' first
      |exact ⟨⟨_,rfl,by grind [bD.val]⟩,rfl⟩
      |refine ag (fun _=>?_) (fun _=>?_)
      |refine ag (by omega) ?_
   refine cf [0,3,4] 5 ((decide (48≤((I s i).toNat:Int)))&&(decide (((I s i).toNat:Int)≤57))) ?_ ?_
   · repeat' first
      |exact ⟨⟨_,rfl,by grind [bD.val]⟩,rfl⟩
      |refine ag (fun _=>?_) (fun _=>?_)
      |refine ag (by omega) ?_
   refine cf [0,3] 49 ((!((decide (97≤((I s i).toNat:Int)))&&(decide (((I s i).toNat:Int)≤122))))&&((!((decide (48≤((I s i).toNat:Int)))&&(decide (((I s i).toNat:Int)≤57))))||(i==0))) ?_ ?_
   · repeat' first
      |exact ⟨⟨_,rfl,by grind [bD.val]⟩,rfl⟩
      |refine ag (fun _=>?_) (fun _=>?_)
   refine ag (fun aj=>?_) (fun aj=>?_)
   · replace aj:((((I s i).toNat:Int)<97)∨(122<((I s i).toNat:Int)))∧(((((I s i).toNat:Int)<48)∨(57<((I s i).toNat:Int)))∨(i=0)):=⟨((eB (dz (dH aj))).imp (fun q=>(Int.not_le.1 (of_decide_eq_false q))) (fun q=>(Int.not_le.1 (of_decide_eq_false q)))),((dq (eA aj)).imp (fun q=>((eB (dz q)).imp (fun q=>(Int.not_le.1 (of_decide_eq_false q))) (fun q=>(Int.not_le.1 (of_decide_eq_false q))))) (fun q=>(eq_of_beq q)))⟩
     refine bn rfl fun _=>cL U ?_
     show ab.bool (cu s)=ab.bool false
     refine congrArg ab.bool ?_
     have ah:(mD (I s i)||(!(i==0)&&mE (I s i)))=false:=by
      rw [Bool.eq_false_iff];intro aC;simp [mD,mE] at aC;omega
     rw [cu,aE.2.2,vt aE.1 aa,ah];rfl
   replace aj:((97≤((I s i).toNat:Int))∧(((I s i).toNat:Int)≤122))∨(((48≤((I s i).toNat:Int))∧(((I s i).toNat:Int)≤57))∧(i≠0)):=((eB aj).imp (fun q=>⟨(of_decide_eq_true (dH (du q))),(of_decide_eq_true (eA (du q)))⟩) (fun q=>⟨⟨(of_decide_eq_true (dH (du (cb q)))),(of_decide_eq_true (eA (du (cb q))))⟩,(ne_of_beq_false (dp q))⟩))
   refine ag (by omega) ?_
   refine ⟨(i+1),⟨rfl,rfl⟩,?_,?_⟩
   · try dsimp only
     have ah:(mD (I s i)||(!(i==0)&&mE (I s i)))=true:=by simp [mD,mE];omega
     exact ⟨by omega,by omega,by rw [aE.2.2,vt aE.1 aa,ah];rfl⟩
   try dsimp only
   omega
 refine bn rfl fun _=>cL U ?_
 show ab.bool (cu s)=ab.bool true
 refine congrArg ab.bool ?_
 have aT:mF s true=true:=by rw [aE.2.2,List.drop_eq_nil_of_le (by omega)];rfl
 rw [cu,aT];cases s<;>simp at*<;>omega
theorem mH (a b:Nat):((a:Int)+(b:Int)==0)=(((a:Int)==0)&&((b:Int)==0)):=by
 rw [Bool.eq_iff_iff];simp;omega
theorem JE (p:Option ar):lp p []=true:=by cases p<;>rfl
theorem Sx {k:Nat} {v:aW} (h:v.l.all (dC k)=false):dC (k+1) v=false:=by rw [dC,h];simp
theorem Sy {k:Nat} {v:aW} (h:v.f.all (fun p=>dC k p.2)=false):dC (k+1) v=false:=by rw [dC,h];simp
theorem Sz {v:aW} (h:lp none v.f=false):fK v=false:=by
 have aZ:v.f≠[]:=by intro c;rw [c,JE] at h;cases h
 have av:0<v.f.length:=List.length_pos_iff.2 aZ
 unfold fK
 repeat' split
 all_goals first|rfl|(rw [h];simp;done)|(rw [Bool.eq_false_iff];intro c;simp at c;first|omega|(simp_all;done))
theorem JF {k:Nat} {v:aW} (h:lp none v.f=false):dC (k+1) v=false:=by rw [dC,Sz h];rfl
theorem tn {k:Nat} {v:aW} (J:v.l.all (dC k)=true) (aa:v.f.all (fun p=>dC k p.2)=true):dC (k+1) v=fK v:=by rw [dC,J,aa];simp
set_option maxHeartbeats 8000000 in
theorem SA (k:Nat) (v:aW) (aO:∀w:aW,bI w<bI v→∀(m:ae) (K:ab→ae→Prop),K (.bool (dC k w)) m→bh Tryz.prog 146 [cV w] m K) (m:ae) (K:ab→ae→Prop) (U:K (.bool (dC (k+1) v)) m):bh Tryz.prog 146 [cV v] m K:=by
 refine enter (c:=cT [] [0] [12,20,22,24,26,28,30] [] [] []) (vs:=[.aI (cV v)]) (L:=[]) (m:=m) false b2 Tryz.mixed Tryz.func146 rfl (k:=1) (by show cO [] _ _ _=true;decide+kernel) rfl (Good.nil m) ?_
 refine ⟨fun bJ=>?_⟩
 have o6:v.s.length≤140737488355328:=(bJ 0 2 (Nat.le_of_ble_eq_true rfl))
 have kq:v.l.length≤140737488355328:=dr (bJ 0 3 (Nat.le_of_ble_eq_true rfl))
 have mC:v.f.length≤140737488355328:=dr (bJ 0 4 (Nat.le_of_ble_eq_true rfl))
 refine aB ?_
 refine cH (σ:=Int) [] [1,3] 1 (fun i=>([(1, .loc 0 0),(3,ax i)],[.cells [ax v.kind,ax v.n,ay v.s,aH (v.l.map cn),aH (v.f.map cB)]],m)) (fun i=>0≤i∧i≤v.l.length∧v.l.all (dC k)=(v.l.drop i.toNat).all (dC k)) (fun i=>v.l.length- i.toNat) (0) ⟨rfl,rfl⟩ ?_ ?_
 · try dsimp only
   exact ⟨by omega,by omega,rfl⟩
 rintro i aE
 refine aB ?_
 refine bN ?_
 refine ag (fun J=>?_) (fun J=>?_)
 · refine aB ?_
   refine fc cV h4 (by omega) ?_
   refine cG (fun _=>aO (I v.l i) (by have:=ha v;first|(have:=hH (bF (l:=v.l) (i:=i) aE.1 (by assumption));omega)|(have:=hI (bF (l:=v.f) (i:=i2) bK.1 (by assumption));omega))) rfl ?_
   refine ag (fun aa=>?_) (fun aa=>?_)
   · refine ag (by omega) ?_
     refine ⟨(i+1),⟨rfl,rfl⟩,?_,?_⟩
     · try dsimp only
       exact ⟨by omega,by omega,by rw [aE.2.2,rW aE.1 J,aa,Bool.true_and]⟩
     try dsimp only
     omega
   refine bn rfl fun _=>?_
   show K (.bool false) m
   rw [Sx (by rw [aE.2.2,rW aE.1 J,aa,Bool.false_and])] at U;exact U
 have ea:v.l.all (dC k)=true:=by rw [aE.2.2,List.drop_eq_nil_of_le (by omega)];rfl
 refine aB ?_
 refine cH (σ:=Int) [] [1,5] 1 (fun i2=>([(1, .loc 0 0),(5,ax i2)],[.cells [ax v.kind,ax v.n,ay v.s,aH (v.l.map cn),aH (v.f.map cB)]],m)) (fun i2=>0≤i2∧i2≤v.f.length∧v.f.all (fun p=>dC k p.2)=(v.f.drop i2.toNat).all (fun p=>dC k p.2)∧lp none v.f=lp (tm v.f i2) (v.f.drop i2.toNat)) (fun i2=>v.f.length- i2.toNat) (0) ⟨rfl,rfl⟩ ?_ ?_
 · try dsimp only
   exact ⟨by omega,by omega,rfl,rfl⟩
 rintro i2 bK
 refine aB ?_
 refine bN ?_
 refine ag (fun aj=>?_) (fun aj=>?_)
 · refine aB ?_
   refine fc h3 hT (by omega) ?_
   refine cG (fun _=>aO ((I v.f i2).2) (by have:=ha v;first|(have:=hH (bF (l:=v.l) (i:=i) aE.1 (by assumption));omega)|(have:=hI (bF (l:=v.f) (i:=i2) bK.1 (by assumption));omega))) rfl ?_
   refine fc h3 hT (by omega) ?_
   refine cG (fun _=>pT ((I v.f i2).1)) rfl ?_
   refine cf [1,5] 73 (((!(dC k ((I v.f i2).2)))||(!(cu ((I v.f i2).1))))||((decide (0<i2))&&(!(Op.bytesLess ((I v.f (i2- 1)).1) ((I v.f i2).1))))) ?_ ?_
   · repeat' first
      |exact ⟨⟨_,rfl,by grind [bD.val]⟩,rfl⟩
      |refine ag (fun _=>?_) (fun _=>?_)
      |refine ag (by omega) ?_
      |refine fc h3 hT (by omega) ?_
   refine ag (fun aG=>?_) (fun aG=>?_)
   · replace aG:((dC k ((I v.f i2).2)=false)∨(cu ((I v.f i2).1)=false))∨((0<i2)∧(Op.bytesLess ((I v.f (i2- 1)).1) ((I v.f i2).1)=false)):=((dq aG).imp (fun q=>((dq q).imp (fun q=>(dz q)) (fun q=>(dz q)))) (fun q=>⟨(of_decide_eq_true (dH q)),(dz (eA q))⟩))
     refine bn rfl fun _=>?_
     show K (.bool false) m
     have ak:dC (k+1) v=false:=by
      rcases aG with (q|q)|q
      · exact Sy (by rw [bK.2.2.1,rW (g:=fun p:ar×aW=>dC k p.2) bK.1 aj,q,Bool.false_and])
      · exact JF (by rw [bK.2.2.2,AK bK.1 aj,q];rfl)
      · exact JF (by rw [bK.2.2.2,AK bK.1 aj,q.2,show (i2==0)=false from by simp;omega];simp)
     rw [ak] at U;exact U
   replace aG:((dC k ((I v.f i2).2)=true)∧(cu ((I v.f i2).1)=true))∧((i2≤0)∨(Op.bytesLess ((I v.f (i2- 1)).1) ((I v.f i2).1)=true)):=⟨⟨(du (cb (cb aG))),(du (dp (cb aG)))⟩,((eB (dp aG)).imp (fun q=>(Int.not_lt.1 (of_decide_eq_false q))) (fun q=>(du q)))⟩
   refine ag (by omega) ?_
   refine ⟨(i2+1),⟨rfl,rfl⟩,?_,?_⟩
   · try dsimp only
     have ah:((i2==0)||Op.bytesLess (I v.f (i2- 1)).1 (I v.f i2).1)=true:=by
      rcases aG.2 with q|q
      · have:i2=0:=by omega
        simp [this]
      · simp [q]
     exact ⟨by omega,by omega,by rw [bK.2.2.1,rW (g:=fun p:ar×aW=>dC k p.2) bK.1 aj,aG.1.1,Bool.true_and],by rw [bK.2.2.2,AK bK.1 aj,aG.1.2,ah];rfl⟩
   try dsimp only
   omega
 have ez:v.f.all (fun p=>dC k p.2)=true:=by rw [bK.2.2.1,List.drop_eq_nil_of_le (by omega)];rfl
 have fM:lp none v.f=true:=by rw [bK.2.2.2,List.drop_eq_nil_of_le (by omega),JE]
 refine bN ?_
 refine bN ?_
 refine aB ?_
 refine ag (fun aR=>?_) (fun aR=>?_)
 · refine cf [] 2 ((((v.n==0)&&(v.s==([])))&&((v.l.length:Int)==0))&&((v.f.length:Int)==0)) ?_ ?_
   · repeat' first
      |exact ⟨⟨_,rfl,by grind [bD.val]⟩,rfl⟩
      |refine ag (fun _=>?_) (fun _=>?_)
   refine bn rfl fun _=>?_
   show K (.bool ((((v.n==0)&&(v.s==([])))&&((v.l.length:Int)==0))&&((v.f.length:Int)==0))) m
   have bM:dC (k+1) v=fK v:=tn ea ez
   rw [bM] at U
   have lu:∀e:Bool,fK v=e→K (.bool e) m:=fun e q=>q▸U
   refine lu _ ?_
   unfold fK
   repeat rw [if_neg (by assumption)]
   all_goals first|rfl|(rw [if_pos (by assumption)];done)|(rw [if_pos (by assumption)];first|rfl|(simp only [fM,mH,Bool.and_true,Bool.and_assoc];done)|(simp only [fM,mH,Bool.and_true];ac_rfl))
 refine ag (fun bu=>?_) (fun bu=>?_)
 · refine cf [] 2 (((((decide (-1000000000≤v.n))&&(decide (v.n≤1000000000)))&&(v.s==([])))&&((v.l.length:Int)==0))&&((v.f.length:Int)==0)) ?_ ?_
   · repeat' first
      |exact ⟨⟨_,rfl,by grind [bD.val]⟩,rfl⟩
      |refine ag (fun _=>?_) (fun _=>?_)
   refine bn rfl fun _=>?_
   show K (.bool (((((decide (-1000000000≤v.n))&&(decide (v.n≤1000000000)))&&(v.s==([])))&&((v.l.length:Int)==0))&&((v.f.length:Int)==0))) m
   have bM:dC (k+1) v=fK v:=tn ea ez
   rw [bM] at U
   have lu:∀e:Bool,fK v=e→K (.bool e) m:=fun e q=>q▸U
   refine lu _ ?_
   unfold fK
   repeat rw [if_neg (by assumption)]
   all_goals first|rfl|(rw [if_pos (by assumption)];done)|(rw [if_pos (by assumption)];first|rfl|(simp only [fM,mH,Bool.and_true,Bool.and_assoc];done)|(simp only [fM,mH,Bool.and_true];ac_rfl))
 refine ag (fun cD=>?_) (fun cD=>?_)
 · refine cf [] 2 ((((v.n==0)&&(decide ((v.s.length:Int)≤40)))&&((v.l.length:Int)==0))&&((v.f.length:Int)==0)) ?_ ?_
   · repeat' first
      |exact ⟨⟨_,rfl,by grind [bD.val]⟩,rfl⟩
      |refine ag (fun _=>?_) (fun _=>?_)
   refine bn rfl fun _=>?_
   show K (.bool ((((v.n==0)&&(decide ((v.s.length:Int)≤40)))&&((v.l.length:Int)==0))&&((v.f.length:Int)==0))) m
   have bM:dC (k+1) v=fK v:=tn ea ez
   rw [bM] at U
   have lu:∀e:Bool,fK v=e→K (.bool e) m:=fun e q=>q▸U
   refine lu _ ?_
   unfold fK
   repeat rw [if_neg (by assumption)]
   all_goals first|rfl|(rw [if_pos (by assumption)];done)|(rw [if_pos (by assumption)];first|rfl|(simp only [fM,mH,Bool.and_true,Bool.and_assoc];done)|(simp only [fM,mH,Bool.and_true];ac_rfl))
 refine ag (fun cK=>?_) (fun cK=>?_)
 · refine cf [] 2 (((((v.n==0)||(v.n==1))&&(v.s==([])))&&((v.l.length:Int)==0))&&((v.f.length:Int)==0)) ?_ ?_
   · repeat' first
      |exact ⟨⟨_,rfl,by grind [bD.val]⟩,rfl⟩
      |refine ag (fun _=>?_) (fun _=>?_)
   refine bn rfl fun _=>?_
   show K (.bool (((((v.n==0)||(v.n==1))&&(v.s==([])))&&((v.l.length:Int)==0))&&((v.f.length:Int)==0))) m
   have bM:dC (k+1) v=fK v:=tn ea ez
   rw [bM] at U
   have lu:∀e:Bool,fK v=e→K (.bool e) m:=fun e q=>q▸U
   refine lu _ ?_
   unfold fK
   repeat rw [if_neg (by assumption)]
   all_goals first|rfl|(rw [if_pos (by assumption)];done)|(rw [if_pos (by assumption)];first|rfl|(simp only [fM,mH,Bool.and_true,Bool.and_assoc];done)|(simp only [fM,mH,Bool.and_true];ac_rfl))
 refine ag (fun cC=>?_) (fun cC=>?_)
 · refine cf [] 2 (((v.n==0)&&(v.s==([])))&&((v.f.length:Int)==0)) ?_ ?_
   · repeat' first
      |exact ⟨⟨_,rfl,by grind [bD.val]⟩,rfl⟩
      |refine ag (fun _=>?_) (fun _=>?_)
   refine bn rfl fun _=>?_
   show K (.bool (((v.n==0)&&(v.s==([])))&&((v.f.length:Int)==0))) m
   have bM:dC (k+1) v=fK v:=tn ea ez
   rw [bM] at U
   have lu:∀e:Bool,fK v=e→K (.bool e) m:=fun e q=>q▸U
   refine lu _ ?_
   unfold fK
   repeat rw [if_neg (by assumption)]
   all_goals first|rfl|(rw [if_pos (by assumption)];done)|(rw [if_pos (by assumption)];first|rfl|(simp only [fM,mH,Bool.and_true,Bool.and_assoc];done)|(simp only [fM,mH,Bool.and_true];ac_rfl))
 refine ag (fun eg=>?_) (fun eg=>?_)
 · refine cf [] 2 (((v.n==0)&&(v.s==([])))&&((v.l.length:Int)==0)) ?_ ?_
   · repeat' first
      |exact ⟨⟨_,rfl,by grind [bD.val]⟩,rfl⟩
      |refine ag (fun _=>?_) (fun _=>?_)
   refine bn rfl fun _=>?_
   show K (.bool (((v.n==0)&&(v.s==([])))&&((v.l.length:Int)==0))) m
   have bM:dC (k+1) v=fK v:=tn ea ez
   rw [bM] at U
   have lu:∀e:Bool,fK v=e→K (.bool e) m:=fun e q=>q▸U
   refine lu _ ?_
   unfold fK
   repeat rw [if_neg (by assumption)]
   all_goals first|rfl|(rw [if_pos (by assumption)];done)|(rw [if_pos (by assumption)];first|rfl|(simp only [fM,mH,Bool.and_true,Bool.and_assoc];done)|(simp only [fM,mH,Bool.and_true];ac_rfl))
 refine bn rfl fun _=>?_
 show K (.bool false) m
 have bM:dC (k+1) v=fK v:=tn ea ez
 rw [bM] at U
 have lu:∀e:Bool,fK v=e→K (.bool e) m:=fun e q=>q▸U
 refine lu _ ?_
 unfold fK
 repeat rw [if_neg (by assumption)]
 all_goals first|rfl|(rw [if_pos (by assumption)];done)|(rw [if_pos (by assumption)];first|rfl|(simp only [fM,mH,Bool.and_true,Bool.and_assoc];done)|(simp only [fM,mH,Bool.and_true];ac_rfl))
theorem Es {v:aW} (h:60<(bI v:Int)∨6<fQ (bI v+1) v):b1 v=2:=by rw [Er,if_pos h]
theorem Et {v:aW} (h:(bI v:Int)≤60∧fQ (bI v+1) v≤6) (aa:dC (bI v+1) v=false):b1 v=3:=by rw [Er,if_neg (by omega),if_neg (by simp [aa])]
theorem Eu {v:aW} (h:(bI v:Int)≤60∧fQ (bI v+1) v≤6) (aa:dC (bI v+1) v=true):b1 v=0:=by rw [Er,if_neg (by omega),if_pos aa]
theorem JG:∀(k:Nat) (v:aW),bI v<k→∀(m:ae) (K:ab→ae→Prop),K (.bool (dC k v)) m→bh Tryz.prog 146 [cV v] m K
 |0,_,h=>absurd h (Nat.not_lt_zero _)
 |k+1,v,h=>fun m K U=>SA k v (fun w hw=>JG k w (by omega)) m K U
set_option maxHeartbeats 2000000 in
theorem JH (v:aW) (df:bI v≤1000000000000) (m:ae) (K:ab→ae→Prop) (U:K (.int .i64 (b1 v)) m):bh Tryz.prog 79 [cV v] m K:=by
 refine enter (c:=cT [] [] [2] [] [] []) (vs:=[.aI (cV v)]) (L:=[]) (m:=m) false b2 Tryz.mixed Tryz.func79 rfl (k:=1) (by show cO [] _ _ _=true;decide+kernel) rfl (Good.nil m) ?_
 refine cG (fun _=>JD (bI v+1) v (Nat.lt_succ_self _) df) rfl ?_
 refine aB ?_
 refine cf [1] 16 ((decide (60<(bI v:Int)))||(decide (6<fQ (bI v+1) v))) ?_ ?_
 · repeat' first
    |exact ⟨⟨_,rfl,by grind [bD.val]⟩,rfl⟩
    |refine ag (fun _=>?_) (fun _=>?_)
 refine ag (fun J=>?_) (fun J=>?_)
 · replace J:(60<(bI v:Int))∨(6<fQ (bI v+1) v):=((dq J).imp (fun q=>(of_decide_eq_true q)) (fun q=>(of_decide_eq_true q)))
   have bM:b1 v=(2:Int):=by
    first|exact Es (by assumption)|exact Et (by assumption) (by assumption)|exact Eu (by assumption) (by assumption)
   rw [bM] at U
   exact bn rfl fun _=>U
 replace J:((bI v:Int)≤60)∧(fQ (bI v+1) v≤6):=⟨(Int.not_lt.1 (of_decide_eq_false (cb J))),(Int.not_lt.1 (of_decide_eq_false (dp J)))⟩
 refine cG (fun _=>JG (bI v+1) v (Nat.lt_succ_self _)) rfl ?_
 refine aB ?_
 refine ag (fun aa=>?_) (fun aa=>?_)
 · have bM:b1 v=(0:Int):=by
    first|exact Es (by assumption)|exact Et (by assumption) (by assumption)|exact Eu (by assumption) (by assumption)
   rw [bM] at U
   exact bn rfl fun _=>U
 have bM:b1 v=(3:Int):=by
  first|exact Es (by assumption)|exact Et (by assumption) (by assumption)|exact Eu (by assumption) (by assumption)
 rw [bM] at U
 exact bn rfl fun _=>U
set_option maxHeartbeats 4000000 in
theorem SB (a b:aW) (aO:∀v w:aW,bI v<bI a→∀(m:ae) (K:ab→ae→Prop),K (.bool (hy v w)) m→bh Tryz.prog 48 [cV v,cV w] m K) (m:ae) (K:ab→ae→Prop) (U:K (.bool (hy a b)) m):bh Tryz.prog 48 [cV a,cV b] m K:=by
 refine enter (c:=cT [] [0] [1,13] [] [] []) (vs:=[.aI (cV a), .aI (cV b)]) (L:=[]) (m:=m) false b2 Tryz.mixed Tryz.func48 rfl (k:=2) (by show cO [] _ _ _=true;decide+kernel) rfl (Good.nil m) ?_
 refine ⟨fun bJ=>?_⟩
 have o6:a.s.length≤140737488355328:=(bJ 0 2 (Nat.le_of_ble_eq_true rfl))
 have kq:a.l.length≤140737488355328:=dr (bJ 0 3 (Nat.le_of_ble_eq_true rfl))
 have mC:a.f.length≤140737488355328:=dr (bJ 0 4 (Nat.le_of_ble_eq_true rfl))
 have Jv:b.s.length≤140737488355328:=(bJ 1 2 (Nat.le_of_ble_eq_true rfl))
 have AN:b.l.length≤140737488355328:=dr (bJ 1 3 (Nat.le_of_ble_eq_true rfl))
 have AO:b.f.length≤140737488355328:=dr (bJ 1 4 (Nat.le_of_ble_eq_true rfl))
 refine aB ?_
 refine cf [2,3] 45 (((((!(a.kind==b.kind))||(!(a.n==b.n)))||(!(a.s==b.s)))||(!((a.l.length:Int)==(b.l.length:Int))))||(!((a.f.length:Int)==(b.f.length:Int)))) ?_ ?_
 · repeat' first
    |exact ⟨⟨_,rfl,by grind [bD.val]⟩,rfl⟩
    |refine ag (fun _=>?_) (fun _=>?_)
    |refine bN ?_
 refine ag (fun J=>?_) (fun J=>?_)
 · replace J:((((a.kind≠b.kind)∨(a.n≠b.n))∨(a.s≠b.s))∨((a.l.length:Int)≠(b.l.length:Int)))∨((a.f.length:Int)≠(b.f.length:Int)):=((dq J).imp (fun q=>((dq q).imp (fun q=>((dq q).imp (fun q=>((dq q).imp (fun q=>(ne_of_beq_false (dz q))) (fun q=>(ne_of_beq_false (dz q))))) (fun q=>(ne_of_beq_false (dz q))))) (fun q=>(ne_of_beq_false (dz q))))) (fun q=>(ne_of_beq_false (dz q))))
   refine bn rfl fun _=>?_
   show K (.bool false) m
   rw [vu (by intro aC;subst aC;simp at J)] at U;exact U
 replace J:((((a.kind=b.kind)∧(a.n=b.n))∧(a.s=b.s))∧((a.l.length:Int)=(b.l.length:Int)))∧((a.f.length:Int)=(b.f.length:Int)):=⟨⟨⟨⟨(eq_of_beq (du (cb (cb (cb (cb J)))))),(eq_of_beq (du (dp (cb (cb (cb J))))))⟩,(eq_of_beq (du (dp (cb (cb J)))))⟩,(eq_of_beq (du (dp (cb J))))⟩,(eq_of_beq (du (dp J)))⟩
 obtain ⟨⟨⟨⟨al,aM⟩,aw⟩,av⟩,aZ⟩:=J
 refine aB ?_
 refine cH (σ:=Int) [] [2,3,5] 2 (fun i=>([(2, .loc 0 0),(3, .loc 1 0),(5,ax i)],[.cells [ax a.kind,ax a.n,ay a.s,aH (a.l.map cn),aH (a.f.map cB)], .cells [ax b.kind,ax b.n,ay b.s,aH (b.l.map cn),aH (b.f.map cB)]],m)) (fun i=>0≤i∧i≤a.l.length∧a.l.take i.toNat=b.l.take i.toNat) (fun i=>a.l.length- i.toNat) (0) ⟨rfl,rfl⟩ ?_ ?_
 · try dsimp only
   exact ⟨by omega,by omega,rfl⟩
 rintro i aE
 refine aB ?_
 refine bN ?_
 refine ag (fun aa=>?_) (fun aa=>?_)
 · refine aB ?_
   refine fc cV h4 (by omega) ?_
   refine fc cV h4 (by omega) ?_
   refine gN (fun _=>aO (I a.l i) (I b.l i) (by have:=ha a;first|(have:=hH (bF (l:=a.l) (i:=i) aE.1 (by assumption));omega)|(have:=hI (bF (l:=a.f) (i:=i2) bK.1 (by assumption));omega))) ?_
   refine ag (fun aj=>?_) (fun aj=>?_)
   · refine ag (by omega) ?_
     refine ⟨(i+1),⟨rfl,rfl⟩,?_,?_⟩
     · try dsimp only
       exact ⟨by omega,by omega,by rw [iM aE.1 aa,iM aE.1 (by omega),aE.2.2,tl.1 aj]⟩
     try dsimp only
     omega
   refine bn rfl fun _=>?_
   show K (.bool false) m
   rw [vu (by intro aC;subst aC;rw [rU rfl] at aj;cases aj)] at U;exact U
 refine aB ?_
 refine cH (σ:=Int) [] [2,3,7] 2 (fun i2=>([(2, .loc 0 0),(3, .loc 1 0),(7,ax i2)],[.cells [ax a.kind,ax a.n,ay a.s,aH (a.l.map cn),aH (a.f.map cB)], .cells [ax b.kind,ax b.n,ay b.s,aH (b.l.map cn),aH (b.f.map cB)]],m)) (fun i2=>0≤i2∧i2≤a.f.length∧a.f.take i2.toNat=b.f.take i2.toNat) (fun i2=>a.f.length- i2.toNat) (0) ⟨rfl,rfl⟩ ?_ ?_
 · try dsimp only
   exact ⟨by omega,by omega,rfl⟩
 rintro i2 bK
 refine aB ?_
 refine bN ?_
 refine ag (fun aG=>?_) (fun aG=>?_)
 · refine aB ?_
   refine fc h3 hT (by omega) ?_
   refine fc h3 hT (by omega) ?_
   refine gN (fun _=>aO ((I a.f i2).2) ((I b.f i2).2) (by have:=ha a;first|(have:=hH (bF (l:=a.l) (i:=i) aE.1 (by assumption));omega)|(have:=hI (bF (l:=a.f) (i:=i2) bK.1 (by assumption));omega))) ?_
   refine cf [2,3,7] 102 ((!(hy ((I a.f i2).2) ((I b.f i2).2)))||(!(((I a.f i2).1)==((I b.f i2).1)))) ?_ ?_
   · repeat' first
      |exact ⟨⟨_,rfl,by grind [bD.val]⟩,rfl⟩
      |refine ag (fun _=>?_) (fun _=>?_)
      |refine fc h3 hT (by omega) ?_
   refine ag (fun aR=>?_) (fun aR=>?_)
   · replace aR:(hy ((I a.f i2).2) ((I b.f i2).2)=false)∨((I a.f i2).1≠(I b.f i2).1):=((dq aR).imp (fun q=>(dz q)) (fun q=>(ne_of_beq_false (dz q))))
     refine bn rfl fun _=>?_
     show K (.bool false) m
     rw [vu (by intro aC;subst aC;rw [rU rfl] at aR;simp at aR)] at U;exact U
   replace aR:(hy ((I a.f i2).2) ((I b.f i2).2)=true)∧((I a.f i2).1=(I b.f i2).1):=⟨(du (cb aR)),(eq_of_beq (du (dp aR)))⟩
   refine ag (by omega) ?_
   refine ⟨(i2+1),⟨rfl,rfl⟩,?_,?_⟩
   · try dsimp only
     exact ⟨by omega,by omega,by rw [iM bK.1 aG,iM bK.1 (by omega),bK.2.2,Prod.ext aR.2 (tl.1 aR.1)]⟩
   try dsimp only
   omega
 refine bn rfl fun _=>?_
 show K (.bool true) m
 rw [rU (aW.ext' al aM aw (by have:=aE.2.2;rwa [iN (by omega),iN (by omega)] at this) (by have:=bK.2.2;rwa [iN (by omega),iN (by omega)] at this))] at U;exact U
theorem JI:∀(n:Nat) (a b:aW),bI a<n→∀(m:ae) (K:ab→ae→Prop),K (.bool (hy a b)) m→bh Tryz.prog 48 [cV a,cV b] m K
 |0,_,_,h=>absurd h (Nat.not_lt_zero _)
 |n+1,a,b,h=>fun m K U=>SB a b (fun v w bw=>JI n v w (by omega)) m K U
theorem JJ (a b:aW) (m:ae) (K:ab→ae→Prop) (U:K (.bool (hy a b)) m):bh Tryz.prog 48 [cV a,cV b] m K:=JI (bI a+1) a b (Nat.lt_succ_self _) m K U
end Go.Proofs
end
section
namespace Go.Proofs
open Go Go.bg Go.cz
set_option maxRecDepth 100000
def vv:ar:=[48,49,50,51,52,53,54,55,56,57,97,98,99,100,101,102]
def jk (c:UInt8):ar:=
 if (c.toNat:Int)=34∨(c.toNat:Int)=92 then [92,c]
 else if (c.toNat:Int)<32∨126<(c.toNat:Int) then [92,120,I vv (c.toNat/16:Nat),I vv (c.toNat%16:Nat)]
 else [c]
def nD (s:ar):ar:=34::s.flatMap jk++[34]
theorem SC (c:UInt8):(jk c).length≤4:=by unfold jk;repeat' split
                                         all_goals simp
theorem JK (s:ar):(s.flatMap jk).length≤4*s.length:=by
 induction s with
 |nil=>simp
 |cons c r aO=>rw [List.flatMap_cons,List.length_append,List.length_cons];have:=SC c;omega
theorem vw {s:ar} {i:Int} (aJ:0≤i) (ad:i<s.length):(s.take (i+1).toNat).flatMap jk=(s.take i.toNat).flatMap jk++jk (I s i):=by
 rw [iM aJ ad,List.flatMap_append];simp
theorem JL (s:ar) (k:Nat):((s.take k).flatMap jk).length≤4*s.length:=by
 have:=JK (s.take k)
 have:(s.take k).length≤s.length:=by rw [List.length_take];omega
 omega
theorem mI (c:UInt8):Int.fdiv (c.toNat:Int) (2^(min (Int.toNat 4) IntKind.u8.bits))=(c.toNat/16:Nat):=by
 have:∀n:Fin 256,Int.fdiv (n.val:Int) (2^(min (Int.toNat 4) IntKind.u8.bits))=(n.val/16:Nat):=by decide+kernel
 exact this ⟨c.toNat,c.toNat_lt⟩
theorem nE (c:UInt8):IntKind.u8.wrap (BitVec.ofInt IntKind.u8.bits (c.toNat:Int) &&& BitVec.ofInt IntKind.u8.bits 15).toNat=(c.toNat%16:Nat):=by
 have:∀n:Fin 256,IntKind.u8.wrap (BitVec.ofInt IntKind.u8.bits (n.val:Int) &&& BitVec.ofInt IntKind.u8.bits 15).toNat=(n.val%16:Nat):=by decide+kernel
 exact this ⟨c.toNat,c.toNat_lt⟩
theorem nF (c:UInt8):IntKind.u8.wrap (Int.tdiv (c.toNat:Int) 16)=(c.toNat/16:Nat):=by
 have:∀n:Fin 256,IntKind.u8.wrap (Int.tdiv (n.val:Int) 16)=(n.val/16:Nat):=by decide+kernel
 exact this ⟨c.toNat,c.toNat_lt⟩
theorem mJ (c:UInt8):Int.tmod (c.toNat:Int) 16=(c.toNat%16:Nat):=by
 have:∀n:Fin 256,Int.tmod (n.val:Int) 16=(n.val%16:Nat):=by decide+kernel
 exact this ⟨c.toNat,c.toNat_lt⟩
theorem mK (c:UInt8):c.toNat<256:=c.toNat_lt
theorem SD (c:UInt8):0≤(4:Int)∧IntKind.u8.min≤Int.fdiv (c.toNat:Int) (2^(min (Int.toNat 4) IntKind.u8.bits))∧Int.fdiv (c.toNat:Int) (2^(min (Int.toNat 4) IntKind.u8.bits))≤IntKind.u8.max:=by
 have:=mK c
 rw [mI];exact ⟨by omega,by show (0:Int)≤_;omega,by show _≤(255:Int);omega⟩
theorem SE (c:UInt8):(16:Int)≠0∧IntKind.u8.min≤Int.tmod (c.toNat:Int) 16∧Int.tmod (c.toNat:Int) 16≤IntKind.u8.max:=by
 have:=mK c
 rw [mJ];exact ⟨by omega,by show (0:Int)≤_;omega,by show _≤(255:Int);omega⟩
set_option maxHeartbeats 1000000 in
theorem SF (s:ar) (aw:s.length≤1000000000) (m:ae) (K:ab→ae→Prop) (U:K (.str (nD s)) m):bh Tryz.prog 196 [.str s] m K:=by
 refine enter (c:=cT [] [] [7,9] [] [] []) (vs:=[.aI (.str s)]) (L:=[]) (m:=m) false b2 Tryz.mixed Tryz.func196 rfl (k:=1) (by show cO [] _ _ _=true;decide+kernel) rfl (Good.nil m) ?_
 refine aB ?_
 refine cH (σ:=(List UInt8)×Int) [] [0,3,8,9] 0 (fun ⟨b,i⟩=>([(0,ay s),(3, .own (b.map bC)),(8,ax (s.length:Int)),(9,ax i)],[],m)) (fun ⟨b,i⟩=>0≤i∧i≤s.length∧b=34::(s.take i.toNat).flatMap jk) (fun ⟨b,i⟩=>s.length- i.toNat) ([34],0) ⟨rfl,rfl⟩ ?_ ?_
 · try dsimp only
   exact ⟨by omega,by omega,rfl⟩
 rintro ⟨b,i⟩ aE
 dsimp only at aE
 have rk:b.length≤1+4*s.length:=by rw [aE.2.2,List.length_cons];have:=JL s i.toNat;omega
 refine aB ?_
 refine ag (fun J=>?_) (fun J=>?_)
 · refine aB ?_
   refine ag ⟨by (first|omega|(have:=mK (I s i);simp only [mI,nE,nF,mJ,List.length_cons,List.length_nil];omega)),by (first|omega|(have:=mK (I s i);simp only [mI,nE,nF,mJ,List.length_cons,List.length_nil];omega))⟩ ?_
   refine cf [0,3,5,8,9] 19 ((((I s i).toNat:Int)==34)||(((I s i).toNat:Int)==92)) ?_ ?_
   · repeat' first
      |exact ⟨⟨_,rfl,by grind [bD.val]⟩,rfl⟩
      |refine ag (fun _=>?_) (fun _=>?_)
   refine ag (fun aa=>?_) (fun aa=>?_)
   · replace aa:(((I s i).toNat:Int)=34)∨(((I s i).toNat:Int)=92):=((dq aa).imp (fun q=>(eq_of_beq q)) (fun q=>(eq_of_beq q)))
     refine ap bC b ([92,I s i]:List UInt8) rfl rfl (fun _=>⟨rfl,rfl⟩) (by (simp only [List.length_append,List.length_cons,List.length_nil];omega)) ?_
     refine ag (by omega) ?_
     refine ⟨(b++([92,I s i]:List UInt8),i+1),⟨rfl,rfl⟩,?_,?_⟩
     · try dsimp only
       have e:jk (I s i)=[92,I s i]:=by rw [jk,if_pos (by assumption)]
       exact ⟨by omega,by omega,by rw [vw aE.1 J,e,aE.2.2];rfl⟩
     try dsimp only
     omega
   replace aa:(((I s i).toNat:Int)≠34)∧(((I s i).toNat:Int)≠92):=⟨(ne_of_beq_false (cb aa)),(ne_of_beq_false (dp aa))⟩
   refine cf [0,3,5,8,9] 30 ((decide (((I s i).toNat:Int)<32))||(decide (126<((I s i).toNat:Int)))) ?_ ?_
   · repeat' first
      |exact ⟨⟨_,rfl,by grind [bD.val]⟩,rfl⟩
      |refine ag (fun _=>?_) (fun _=>?_)
   refine ag (fun aj=>?_) (fun aj=>?_)
   · replace aj:(((I s i).toNat:Int)<32)∨(126<((I s i).toNat:Int)):=((dq aj).imp (fun q=>(of_decide_eq_true q)) (fun q=>(of_decide_eq_true q)))
     refine ag (by exact SD _) ?_
     refine ag ⟨by (first|omega|(have:=mK (I s i);simp only [mI,nE,nF,mJ,List.length_cons,List.length_nil];omega)),by (first|omega|(have:=mK (I s i);simp only [mI,nE,nF,mJ,List.length_cons,List.length_nil];omega))⟩ ?_
     refine ag ⟨by (first|omega|(have:=mK (I s i);simp only [mI,nE,nF,mJ,List.length_cons,List.length_nil];omega)),by (first|omega|(have:=mK (I s i);simp only [mI,nE,nF,mJ,List.length_cons,List.length_nil];omega))⟩ ?_
     refine ap bC b ([92,120,I ([48,49,50,51,52,53,54,55,56,57,97,98,99,100,101,102]:List UInt8) (Int.fdiv ((I s i).toNat) (2^(min (Int.toNat 4) IntKind.u8.bits))),I ([48,49,50,51,52,53,54,55,56,57,97,98,99,100,101,102]:List UInt8) (IntKind.u8.wrap (BitVec.ofInt IntKind.u8.bits ((I s i).toNat) &&& BitVec.ofInt IntKind.u8.bits 15).toNat)]:List UInt8) rfl rfl (fun _=>⟨rfl,rfl⟩) (by (simp only [List.length_append,List.length_cons,List.length_nil];omega)) ?_
     refine ag (by omega) ?_
     refine ⟨(b++([92,120,I ([48,49,50,51,52,53,54,55,56,57,97,98,99,100,101,102]:List UInt8) (Int.fdiv ((I s i).toNat) (2^(min (Int.toNat 4) IntKind.u8.bits))),I ([48,49,50,51,52,53,54,55,56,57,97,98,99,100,101,102]:List UInt8) (IntKind.u8.wrap (BitVec.ofInt IntKind.u8.bits ((I s i).toNat) &&& BitVec.ofInt IntKind.u8.bits 15).toNat)]:List UInt8),i+1),⟨rfl,rfl⟩,?_,?_⟩
     · try dsimp only
       have e:jk (I s i)=[92,120,I vv ((I s i).toNat/16:Nat),I vv ((I s i).toNat%16:Nat)]:=by rw [jk,if_neg (by omega),if_pos (by assumption)]
       exact ⟨by omega,by omega,by rw [vw aE.1 J,e,aE.2.2,mI,nE];rfl⟩
     try dsimp only
     omega
   replace aj:(32≤((I s i).toNat:Int))∧(((I s i).toNat:Int)≤126):=⟨(Int.not_lt.1 (of_decide_eq_false (cb aj))),(Int.not_lt.1 (of_decide_eq_false (dp aj)))⟩
   refine ap bC b ([I s i]:List UInt8) rfl rfl (fun _=>⟨rfl,rfl⟩) (by (simp only [List.length_append,List.length_cons,List.length_nil];omega)) ?_
   refine ag (by omega) ?_
   refine ⟨(b++([I s i]:List UInt8),i+1),⟨rfl,rfl⟩,?_,?_⟩
   · try dsimp only
     have e:jk (I s i)=[I s i]:=by rw [jk,if_neg (by omega),if_neg (by omega)]
     exact ⟨by omega,by omega,by rw [vw aE.1 J,e,aE.2.2];rfl⟩
   try dsimp only
   omega
 refine ap bC b ([34]:List UInt8) rfl rfl (fun _=>⟨rfl,rfl⟩) (by (simp only [List.length_append,List.length_cons,List.length_nil];omega)) ?_
 refine pM ?_
 refine bn rfl fun _=>?_
 show K (.str (b++([34]:List UInt8))) m
 have e:b++[34]=nD s:=by rw [aE.2.2,iN (by omega)];rfl
 rw [←e] at U;exact U
set_option maxHeartbeats 1000000 in
theorem SG (s:ar) (aw:s.length≤1000000000) (m:ae) (K:ab→ae→Prop) (U:K (.str (nD s)) m):bh Tryz.prog 118 [.str s] m K:=by
 refine enter (c:=cT [] [] [6,8] [] [] []) (vs:=[.aI (.str s)]) (L:=[]) (m:=m) false b2 Tryz.mixed Tryz.func118 rfl (k:=1) (by show cO [] _ _ _=true;decide+kernel) rfl (Good.nil m) ?_
 refine aB ?_
 refine cH (σ:=(List UInt8)×Int) [] [0,3,4] 0 (fun ⟨b,i⟩=>([(0,ay s),(3,ay b),(4,ax i)],[],m)) (fun ⟨b,i⟩=>0≤i∧i≤s.length∧b=(s.take i.toNat).flatMap jk) (fun ⟨b,i⟩=>s.length- i.toNat) ([],0) ⟨rfl,rfl⟩ ?_ ?_
 · try dsimp only
   exact ⟨by omega,by omega,rfl⟩
 rintro ⟨b,i⟩ aE
 dsimp only at aE
 have rk:b.length≤4*s.length:=by rw [aE.2.2];exact JL s i.toNat
 refine aB ?_
 refine ag (fun J=>?_) (fun J=>?_)
 · refine aB ?_
   refine ag ⟨by (first|omega|(have:=mK (I s i);simp only [mI,nE,nF,mJ,List.length_cons,List.length_nil];omega)),by (first|omega|(have:=mK (I s i);simp only [mI,nE,nF,mJ,List.length_cons,List.length_nil];omega))⟩ ?_
   refine cf [0,3,4,5] 20 ((((I s i).toNat:Int)==34)||(((I s i).toNat:Int)==92)) ?_ ?_
   · repeat' first
      |exact ⟨⟨_,rfl,by grind [bD.val]⟩,rfl⟩
      |refine ag (fun _=>?_) (fun _=>?_)
   refine ag (fun aa=>?_) (fun aa=>?_)
   · replace aa:(((I s i).toNat:Int)=34)∨(((I s i).toNat:Int)=92):=((dq aa).imp (fun q=>(eq_of_beq q)) (fun q=>(eq_of_beq q)))
     refine pM (xs:=([92,I s i]:List UInt8)) ?_
     refine ag (by (first|omega|(simp only [List.length_append,List.length_cons,List.length_nil];omega))) ?_
     refine ag (by omega) ?_
     refine ⟨(b++([92,I s i]:List UInt8),i+1),⟨rfl,rfl⟩,?_,?_⟩
     · try dsimp only
       have e:jk (I s i)=[92,I s i]:=by rw [jk,if_pos (by assumption)]
       exact ⟨by omega,by omega,by rw [vw aE.1 J,e,aE.2.2]⟩
     try dsimp only
     omega
   replace aa:(((I s i).toNat:Int)≠34)∧(((I s i).toNat:Int)≠92):=⟨(ne_of_beq_false (cb aa)),(ne_of_beq_false (dp aa))⟩
   refine cf [0,3,4,5] 31 ((decide (32≤((I s i).toNat:Int)))&&(decide (((I s i).toNat:Int)≤126))) ?_ ?_
   · repeat' first
      |exact ⟨⟨_,rfl,by grind [bD.val]⟩,rfl⟩
      |refine ag (fun _=>?_) (fun _=>?_)
   refine ag (fun aj=>?_) (fun aj=>?_)
   · replace aj:(32≤((I s i).toNat:Int))∧(((I s i).toNat:Int)≤126):=⟨(of_decide_eq_true (dH aj)),(of_decide_eq_true (eA aj))⟩
     refine pM (xs:=([I s i]:List UInt8)) ?_
     refine ag (by (first|omega|(simp only [List.length_append,List.length_cons,List.length_nil];omega))) ?_
     refine ag (by omega) ?_
     refine ⟨(b++([I s i]:List UInt8),i+1),⟨rfl,rfl⟩,?_,?_⟩
     · try dsimp only
       have e:jk (I s i)=[I s i]:=by rw [jk,if_neg (by omega),if_neg (by omega)]
       exact ⟨by omega,by omega,by rw [vw aE.1 J,e,aE.2.2]⟩
     try dsimp only
     omega
   replace aj:(((I s i).toNat:Int)<32)∨(126<((I s i).toNat:Int)):=((eB aj).imp (fun q=>(Int.not_le.1 (of_decide_eq_false q))) (fun q=>(Int.not_le.1 (of_decide_eq_false q))))
   refine ag (by omega) ?_
   refine ag ⟨by (first|omega|(have:=mK (I s i);simp only [mI,nE,nF,mJ,List.length_cons,List.length_nil];omega)),by (first|omega|(have:=mK (I s i);simp only [mI,nE,nF,mJ,List.length_cons,List.length_nil];omega))⟩ ?_
   refine ag (by exact SE _) ?_
   refine ag ⟨by (first|omega|(have:=mK (I s i);simp only [mI,nE,nF,mJ,List.length_cons,List.length_nil];omega)),by (first|omega|(have:=mK (I s i);simp only [mI,nE,nF,mJ,List.length_cons,List.length_nil];omega))⟩ ?_
   refine pM (xs:=([92,120,I ([48,49,50,51,52,53,54,55,56,57,97,98,99,100,101,102]:List UInt8) (IntKind.u8.wrap (Int.tdiv ((I s i).toNat) 16)),I ([48,49,50,51,52,53,54,55,56,57,97,98,99,100,101,102]:List UInt8) (Int.tmod ((I s i).toNat) 16)]:List UInt8)) ?_
   refine ag (by (first|omega|(simp only [List.length_append,List.length_cons,List.length_nil];omega))) ?_
   refine ag (by omega) ?_
   refine ⟨(b++([92,120,I ([48,49,50,51,52,53,54,55,56,57,97,98,99,100,101,102]:List UInt8) (IntKind.u8.wrap (Int.tdiv ((I s i).toNat) 16)),I ([48,49,50,51,52,53,54,55,56,57,97,98,99,100,101,102]:List UInt8) (Int.tmod ((I s i).toNat) 16)]:List UInt8),i+1),⟨rfl,rfl⟩,?_,?_⟩
   · try dsimp only
     have e:jk (I s i)=[92,120,I vv ((I s i).toNat/16:Nat),I vv ((I s i).toNat%16:Nat)]:=by rw [jk,if_neg (by omega),if_pos (by omega)]
     exact ⟨by omega,by omega,by rw [vw aE.1 J,e,aE.2.2,nF,mJ];rfl⟩
   try dsimp only
   omega
 refine ag (by (first|omega|(simp only [List.length_append,List.length_cons,List.length_nil];omega))) ?_
 refine ag (by (first|omega|(simp only [List.length_append,List.length_cons,List.length_nil];omega))) ?_
 refine bn rfl fun _=>?_
 show K (.str ((([34]:List UInt8)++b)++([34]:List UInt8))) m
 have e:[34]++b++[34]=nD s:=by rw [aE.2.2,iN (by omega)];rfl
 rw [←e] at U;exact U
end Go.Proofs
end
section
namespace Go.Proofs
open Go Go.bg Go.cz
set_option maxRecDepth 100000
theorem SH {n:Int} (kG:-9223372036854775808≤n) (nh:n≤9223372036854775807):IntKind.i64.wrap (Int.tdiv n 10)=Int.tdiv n 10:=by
 rcases Int.le_total 0 n with h|h
 · rw [Int.tdiv_eq_ediv_of_nonneg h];exact wrap64 _ (by omega) (by omega)
 · have e:Int.tdiv n 10=-((-n)/10):=by
    rw [←Int.tdiv_eq_ediv_of_nonneg (by omega:0≤-n),Int.neg_tdiv,Int.neg_neg]
   rw [e];exact wrap64 _ (by omega) (by omega)
theorem z1 (n:Int):(0≤n→Int.tdiv n 10=n/10∧Int.tmod n 10=n%10)∧(n<0→Int.tdiv n 10=-((-n)/10)∧Int.tmod n 10=-((-n)%10)):=by
 refine ⟨fun h=>⟨Int.tdiv_eq_ediv_of_nonneg h,Int.tmod_eq_emod_of_nonneg h⟩,fun h=>⟨?_,?_⟩⟩
 · rw [←Int.tdiv_eq_ediv_of_nonneg (by omega:0≤-n),Int.neg_tdiv,Int.neg_neg]
 · rw [←Int.tmod_eq_emod_of_nonneg (by omega:0≤-n),Int.neg_tmod,Int.neg_neg]
theorem JM (d:Nat) (h:d<10):ji (48+(d:Int))=UInt8.ofNat (48+d):=by
 apply UInt8.toNat_inj.1
 have e:=zF (48+(d:Int))
 have az:IntKind.u8.wrap (48+(d:Int))=((48+d:Nat):Int):=by
  have:∀n:Fin 10,IntKind.u8.wrap (48+(n.val:Int))=((48+n.val:Nat):Int):=by decide+kernel
  exact this ⟨d,h⟩
 rw [az] at e
 rw [UInt8.toNat_ofNat']
 omega
theorem JN {n:Int} (aJ:0≤n) (h:n<10):Lib.itoa n=[ji (48+n)]:=by
 obtain ⟨d,rfl⟩:=Int.eq_ofNat_of_zero_le aJ
 rw [Lib.itoa,if_neg (by omega),show ((d:Int)).toNat=d from rfl,Lib.decDigits_one (by omega),JM d (by omega)]
theorem JO {n:Int} (h:10≤n):Lib.itoa n=Lib.itoa (n/10)++[ji (48+n%10)]:=by
 obtain ⟨d,rfl⟩:=Int.eq_ofNat_of_zero_le (by omega:0≤n)
 rw [Lib.itoa,if_neg (by omega),Lib.itoa,if_neg (by omega),show ((d:Int)).toNat=d from rfl,Lib.decDigits,dif_neg (by omega),show (((d:Int)/10)).toNat=d/10 by omega]
 have:(d:Int)%10=((d%10:Nat):Int):=by omega
 rw [this,JM _ (Nat.mod_lt _ (by omega))]
theorem SI (u:Nat):Lib.decDigits u≠[]:=by
 rw [Lib.decDigits];split<;>simp
theorem JP {n:Int} (aJ:0≤n):Lib.itoa n=[48]↔n=0:=by
 obtain ⟨d,rfl⟩:=Int.eq_ofNat_of_zero_le aJ
 rw [Lib.itoa,if_neg (by omega),show ((d:Int)).toNat=d from rfl]
 constructor
 · intro h
   rw [Lib.decDigits] at h
   split at h
   · rename_i aY
     have:=congrArg UInt8.toNat (List.cons.inj h).1
     rw [UInt8.toNat_ofNat'] at this
     have e:(48:UInt8).toNat=48:=rfl
     omega
   · have:=congrArg List.length h
     have aa:=List.length_pos_iff.2 (SI (d/10))
     rw [List.length_append] at this
     simp only [List.length_cons,List.length_nil] at this
     omega
 · intro h
   have:d=0:=by omega
   subst this
   rw [Lib.decDigits_one (by omega)];rfl
theorem itoa_neg {n:Int} (h:n<0):Lib.itoa n=[45]++(if-(Int.tdiv n 10)=0 then [] else Lib.itoa (-(Int.tdiv n 10)))++[ji (48- Int.tmod n 10)]:=by
 have e:=(z1 n).2 h
 rw [e.1,e.2,Int.neg_neg,Int.sub_neg]
 have aF:Lib.itoa n=45::Lib.itoa (-n):=by
  rw [Lib.itoa,if_pos h,Lib.itoa,if_neg (by omega)]
  congr 1;congr 1;omega
 rw [aF]
 by_cases aw:-n<10
 · rw [if_pos (by omega),JN (by omega) aw,show (-n)%10=-n by omega];rfl
 · rw [if_neg (by omega),JO (by omega)];rfl
theorem Ev:∀(k u:Nat),u<10^(k+1)→(Lib.decDigits u).length≤k+1
 |k,u,h=>by
  rw [Lib.decDigits]
  split
  · simp
  · rename_i hu
    match k with
    |0=>simp at h;omega
    |k+1=>
     have:=Ev k (u/10) (by rw [Nat.pow_succ] at h;omega)
     simp;omega
theorem AQ {n:Int} (kG:-9223372036854775808≤n) (nh:n≤9223372036854775807):(Lib.itoa n).length≤20:=by
 rw [Lib.itoa]
 split
 · have:=Ev 18 n.natAbs (by have:(10:Nat)^19=10000000000000000000:=by decide
                            omega)
   simp;omega
 · have:=Ev 18 n.toNat (by have:(10:Nat)^19=10000000000000000000:=by decide
                           omega)
   omega
set_option maxHeartbeats 1000000 in
theorem SJ (n:Int) (kG:-9223372036854775808≤n) (nh:n≤9223372036854775807) (aO:∀q:Int,q.natAbs<n.natAbs→-9223372036854775808≤q→q≤9223372036854775807→∀(m:ae) (K:ab→ae→Prop),K (.str (Lib.itoa q)) m→bh Tryz.prog 93 [.int .i64 q] m K) (m:ae) (K:ab→ae→Prop) (U:K (.str (Lib.itoa n)) m):bh Tryz.prog 93 [.int .i64 n] m K:=by
 have hw:=SH kG nh
 have aY:=z1 n
 have Ay:(Lib.itoa (-(IntKind.i64.wrap (Int.tdiv n 10)))).length≤20:=AQ (by simp only [hw];omega) (by simp only [hw];omega)
 have j9:(Lib.itoa (IntKind.i64.wrap (Int.tdiv n 10))).length≤20:=AQ (by simp only [hw];omega) (by simp only [hw];omega)
 refine enter (c:=cT [] [] [] [] [] []) (vs:=[.aI (.int .i64 n)]) (L:=[]) (m:=m) false b2 Tryz.mixed Tryz.func93 rfl (k:=1) (by show cO [] _ _ _=true;decide+kernel) rfl (Good.nil m) ?_
 refine aB ?_
 refine ag (fun J=>?_) (fun J=>?_)
 · refine ag (by omega) ?_
   refine ag (by (first|omega|(simp only [hw];omega))) ?_
   refine cG (fun _=>aO (-(IntKind.i64.wrap (Int.tdiv n 10))) (by simp only [hw];omega) (by simp only [hw];omega) (by simp only [hw];omega)) rfl ?_
   refine aB ?_
   refine ag (fun aa=>?_) (fun aa=>?_)
   · refine ag (by (first|omega|(simp only [List.length_append,List.length_cons,List.length_nil];omega))) ?_
     refine ag (by exact ⟨by omega,by show (-9223372036854775808:Int)≤_;omega,by show _≤(9223372036854775807:Int);omega⟩) ?_
     refine ag (by (first|omega|(simp only [hw];omega))) ?_
     refine pM (xs:=([(ji (48- (Int.tmod n 10)))]:List UInt8)) ?_
     refine ag (by (first|omega|(simp only [List.length_append,List.length_cons,List.length_nil];omega))) ?_
     refine bn rfl fun _=>cL U ?_
     show ab.str (Lib.itoa n)=ab.str ((([45]:List UInt8)++([]))++([(ji (48- (Int.tmod n 10)))]:List UInt8))
     refine congrArg ab.str ?_
     rw [itoa_neg J,if_pos (by have:=(JP (by simp only [hw];omega)).1 aa;rw [hw] at this;exact this)]
   refine ag (by (first|omega|(simp only [List.length_append,List.length_cons,List.length_nil];omega))) ?_
   refine ag (by exact ⟨by omega,by show (-9223372036854775808:Int)≤_;omega,by show _≤(9223372036854775807:Int);omega⟩) ?_
   refine ag (by (first|omega|(simp only [hw];omega))) ?_
   refine pM (xs:=([(ji (48- (Int.tmod n 10)))]:List UInt8)) ?_
   refine ag (by (first|omega|(simp only [List.length_append,List.length_cons,List.length_nil];omega))) ?_
   refine bn rfl fun _=>cL U ?_
   show ab.str (Lib.itoa n)=ab.str ((([45]:List UInt8)++(Lib.itoa (-(IntKind.i64.wrap (Int.tdiv n 10)))))++([(ji (48- (Int.tmod n 10)))]:List UInt8))
   refine congrArg ab.str ?_
   rw [itoa_neg J,if_neg (fun aC=>aa ((JP (by simp only [hw];omega)).2 (by rw [hw];exact aC))),hw]
 refine aB ?_
 refine ag (fun aj=>?_) (fun aj=>?_)
 · refine ag (by (first|omega|(simp only [hw];omega))) ?_
   refine pM (xs:=([(ji (48+n))]:List UInt8)) ?_
   refine bn rfl fun _=>cL U ?_
   show ab.str (Lib.itoa n)=ab.str ([(ji (48+n))]:List UInt8)
   refine congrArg ab.str ?_
   rw [JN (by omega) (by omega)]
 refine ag (by omega) ?_
 refine gN (fun _=>aO (IntKind.i64.wrap (Int.tdiv n 10)) (by simp only [hw];omega) (by simp only [hw];omega) (by simp only [hw];omega)) ?_
 refine ag (by exact ⟨by omega,by show (-9223372036854775808:Int)≤_;omega,by show _≤(9223372036854775807:Int);omega⟩) ?_
 refine ag (by (first|omega|(simp only [hw];omega))) ?_
 refine pM (xs:=([(ji (48+(Int.tmod n 10)))]:List UInt8)) ?_
 refine ag (by (first|omega|(simp only [List.length_append,List.length_cons,List.length_nil];omega))) ?_
 refine bn rfl fun _=>cL U ?_
 show ab.str (Lib.itoa n)=ab.str ((Lib.itoa (IntKind.i64.wrap (Int.tdiv n 10)))++([(ji (48+(Int.tmod n 10)))]:List UInt8))
 refine congrArg ab.str ?_
 rw [JO (by omega),hw,(aY.1 (by omega)).1,(aY.1 (by omega)).2]
theorem JQ:∀(k:Nat) (n:Int),n.natAbs<k→-9223372036854775808≤n→n≤9223372036854775807→∀(m:ae) (K:ab→ae→Prop),K (.str (Lib.itoa n)) m→bh Tryz.prog 93 [.int .i64 n] m K
 |0,_,h=>absurd h (Nat.not_lt_zero _)
 |k+1,n,h=>fun J aa m K U=>SJ n J aa (fun q aU a b=>JQ k q (by omega) a b) m K U
theorem SK (n:Int) (J:-9223372036854775808≤n) (aa:n≤9223372036854775807) (m:ae) (K:ab→ae→Prop) (U:K (.str (Lib.itoa n)) m):bh Tryz.prog 93 [.int .i64 n] m K:=JQ (n.natAbs+1) n (Nat.lt_succ_self _) J aa m K U
def cW (m:ae):Prop:=∃e z az z2 tp p,m 1=some (Ax e z .u64 Lib.pow10Tab)∧m 2=some (.nd az z2 #[.iface tp p])
theorem cW.up {m ai:ae} (aq:∀b o,m b=some o→ai b=some o):cW m→cW ai:=fun ⟨e,z,az,z2,tp,p,h,aa⟩=>⟨e,z,az,z2,tp,p,aq _ _ h,aq _ _ aa⟩
theorem SL:Tryz.prog.globalNamed "internal/strconv.uint64pow10"=some 1:=by kernel_rfl
theorem SM (n:Int) (J:-9223372036854775808≤n) (aa:n≤9223372036854775807) (m:ae) (aP:cW m) (K:ab→ae→Prop) (U:K (.str (Lib.itoa n)) m):bh Tryz.prog 86 [.int .i64 n] m K:=
 have ⟨_,_,_,_,_,_,aP,_⟩:=aP
 Rk ⟨_,Tryz.func86,rfl,by kernel_rfl⟩ SL Tryz.strconv_Itoa aP (by have:=AQ J aa;omega) U
theorem JR (m:ae) (b:Nat) (o fE:gr):(m.aS [(b,o)]).cE b (some fE)=m.aS [(b,fE)]:=by
 funext c;simp only [ae.aS,ae.cE];split<;>rfl
theorem Ew (m:ae) (b:Nat) (o:gr):m.aS [(b,o)] b=some o:=by simp [ae.aS,ae.cE]
theorem fG (b:Nat) (l s:ar) (h:l.length+s.length≤140737488355328) (m:ae) (K:ab→ae→Prop) (U:K (.tuple [.int .i64 s.length, .nilIface]) (m.aS [(b, .bX 112 5 ((l++s).map bC))])):
 bh Tryz.prog 80 [.ptr ⟨b,0,none⟩, .str s] (m.aS [(b, .bX 112 5 (l.map bC))]) K:=
 Q8 ⟨_,Tryz.func80,rfl,by kernel_rfl⟩ Tryz.underlying110 Tryz.underlying9 (by kernel_rfl) (by kernel_rfl) (by kernel_rfl) Tryz.RL (Ew m b _) h (by rw [JR];exact U)
theorem Ex (b:Nat) (l:ar) (m:ae) (K:ab→ae→Prop) (U:K (.str l) (m.aS [(b, .cells [.aV, .aV])])):
 bh Tryz.prog 58 [.ptr ⟨b,0,none⟩] (m.aS [(b, .bX 112 5 (l.map bC))]) K:=
 Re ⟨_,Tryz.func58,rfl,by kernel_rfl⟩ Tryz.RM Tryz.RQ (Ew m b _) (by rw [JR];exact U)
end Go.Proofs
end
section
namespace Go.Proofs
open Go Go.bg Go.cz
set_option maxRecDepth 100000
theorem vx:∃i,Tryz.prog.info? 112=some i∧i.zero=some (.agg #[.pointer none, .slice none 0 0]):=⟨_,rfl,rfl⟩
def lv (b:Bool):ar:=if b=true then [116,114,117,101] else [102,97,108,115,101]
def eo {α:Type} (g:α→ar):List α→Bool→ar
 |[],_=>[]
 |x::r,first=>(if first=true then [] else [44,32])++g x++eo g r false
def dx:Nat→aW→ar
 |0,_=>[]
 |k+1,v=>
  if v.kind=0 then [110,117,108,108]
  else if v.kind=1 then Lib.itoa v.n
  else if v.kind=2 then nD v.s
  else if v.kind=3 then lv (v.n==1)
  else if v.kind=4 then [91]++eo (dx k) v.l true++[93]
  else if v.kind=5 then [123]++eo (fun p:ar×aW=>p.1++[58,32]++dx k p.2) v.f true++[125]
  else [110,117,108,108]
theorem lW (k:Nat) (v:aW):dx (k+1) v=
 if v.kind=0 then [110,117,108,108]
 else if v.kind=1 then Lib.itoa v.n
 else if v.kind=2 then nD v.s
 else if v.kind=3 then lv (v.n==1)
 else if v.kind=4 then [91]++eo (dx k) v.l true++[93]
 else if v.kind=5 then [123]++eo (fun p:ar×aW=>p.1++[58,32]++dx k p.2) v.f true++[125]
 else [110,117,108,108]:=by rw [dx]
theorem JS {α:Type} [Inhabited α] {g:α→ar} {l:List α} {i:Int} (aJ:0≤i) (ad:i<l.length):eo g (l.drop i.toNat) (i==0)=(if (i==0)=true then [] else [44,32])++g (I l i)++eo g (l.drop (i+1).toNat) (i+1==0):=by
 have e:(i+1==0)=false:=by simp;omega
 rw [jQ aJ ad,eo,e]
theorem tq {α:Type} [Inhabited α] {g:α→ar} {l:List α} {i:Int} (aJ:0≤i) (ad:i<l.length) (ak:i≤0):eo g (l.drop i.toNat) (i==0)=g (I l i)++eo g (l.drop (i+1).toNat) (i+1==0):=by
 rw [JS aJ ad,if_pos (by simp;omega)];rfl
theorem tr {α:Type} [Inhabited α] {g:α→ar} {l:List α} {i:Int} (aJ:0≤i) (ad:i<l.length) (ak:0<i):eo g (l.drop i.toNat) (i==0)=[44,32]++g (I l i)++eo g (l.drop (i+1).toNat) (i+1==0):=by
 rw [JS aJ ad,if_neg (by simp;omega)]
theorem ts {α:Type} {g:α→ar} {l:List α} {i:Int} {b:Bool} (ad:(l.length:Int)≤i):eo g (l.drop i.toNat) b=[]:=by
 rw [List.drop_eq_nil_of_le (by omega)];rfl
attribute [irreducible] eo dx
theorem Ey {k:Nat} {v:aW} (h:dC (k+1) v=true):fK v=true∧(∀x∈v.l,dC k x=true)∧∀p∈v.f,dC k p.2=true:=by
 rw [dC,Bool.and_eq_true,Bool.and_eq_true] at h
 exact ⟨h.1.1,List.all_eq_true.1 h.1.2,fun p aQ=>List.all_eq_true.1 h.2 p aQ⟩
theorem yp {v:aW} (h:fK v=true) (al:v.kind=1):-1000000000≤v.n∧v.n≤1000000000:=by
 rw [fK,if_neg (by omega),if_pos al] at h
 simp only [Bool.and_eq_true,decide_eq_true_eq] at h
 exact h.1.1
theorem Ez {v:aW} (h:fK v=true) (al:v.kind=2):(v.s.length:Int)≤40:=by
 rw [fK,if_neg (by omega),if_neg (by omega),if_pos al] at h
 simp only [Bool.and_eq_true,decide_eq_true_eq] at h
 exact h.1.2
theorem JT {v:aW} (h:fK v=true):¬(v.kind≠0∧v.kind≠1∧v.kind≠2∧v.kind≠3∧v.kind≠4∧v.kind≠5):=fun ⟨aJ,J,aa,aj,aG,aR⟩=>by
 rw [fK,if_neg aJ,if_neg J,if_neg aa,if_neg aj,if_neg aG,if_neg aR] at h
 cases h
theorem SN (b:Bool) (m:ae) (K:ab→ae→Prop) (U:K (.str (lv b)) m):bh Tryz.prog 217 [.bool b] m K:=by
 refine enter (c:=cT [] [] [] [] [] []) (vs:=[.b (.raw b)]) (L:=[]) (m:=m) false b2 Tryz.mixed Tryz.func217 rfl (k:=1) (by show cO [] _ _ _=true;decide+kernel) rfl (Good.nil m) ?_
 refine aB ?_
 refine ag (fun J=>?_) (fun J=>?_)
 · refine bn rfl fun _=>cL U ?_
   show ab.str (lv b)=ab.str ([116,114,117,101]:List UInt8)
   refine congrArg ab.str ?_
   rw [lv,if_pos J]
 refine bn rfl fun _=>cL U ?_
 show ab.str (lv b)=ab.str ([102,97,108,115,101]:List UInt8)
 refine congrArg ab.str ?_
 rw [lv,if_neg (by simp [J])]
theorem SO (b:Bool) (m:ae) (K:ab→ae→Prop) (U:K (.str (lv b)) m):bh Tryz.prog 197 [.bool b] m K:=by
 refine enter (c:=cT [] [] [] [] [] []) (vs:=[.b (.raw b)]) (L:=[]) (m:=m) false b2 Tryz.mixed Tryz.func197 rfl (k:=1) (by show cO [] _ _ _=true;decide+kernel) rfl (Good.nil m) ?_
 refine cG (fun _=>SN (b)) rfl ?_
 exact bn rfl fun _=>U
set_option maxHeartbeats 2000000 in
theorem SP (k:Nat) (v:aW) (base:ar) (b:Nat) (aO:∀(w:aW) (base:ar),bI w<k→dC k w=true→base.length+(dx k w).length≤140737488355328→∀(b:Nat) (m:ae),eC [b] m→cW m→∀(K:ab→ae→Prop),K (.tuple []) (ae.aS m [(b, .bX 112 5 ((base++dx k w).map bC))])→bh Tryz.prog 148 [.ptr ⟨b,0,none⟩,cV w] (ae.aS m [(b, .bX 112 5 (base.map bC))]) K) (aY:bI v<k+1) (vr:dC (k+1) v=true) (ea:base.length+(dx (k+1) v).length≤140737488355328) (m:ae) (gd:eC [b] m) (K:ab→ae→Prop) (aP:cW m) (U:K (.tuple []) (ae.aS m [(b, .bX 112 5 ((base++dx (k+1) v).map bC))])):bh Tryz.prog 148 [.ptr ⟨b,0,none⟩,cV v] (ae.aS m [(b, .bX 112 5 (base.map bC))]) K:=by
 obtain ⟨lI,ml,oT⟩:=Ey vr
 refine enter (c:=cT [] [0] [] [] [] [b]) (vs:=[.loc 0 0, .aI (cV v)]) (L:=[.obj (.bX 112 5 (base.map bC))]) (m:=m) false b2 Tryz.mixed Tryz.func148 rfl (k:=2) (by show cO [] _ _ _=true;decide+kernel) rfl (gd.gZ rfl) ?_
 refine ⟨fun bJ=>?_⟩
 have Jv:v.s.length≤140737488355328:=(bJ 1 2 (Nat.le_of_ble_eq_true rfl))
 have AN:v.l.length≤140737488355328:=dr (bJ 1 3 (Nat.le_of_ble_eq_true rfl))
 have AO:v.f.length≤140737488355328:=dr (bJ 1 4 (Nat.le_of_ble_eq_true rfl))
 refine ag (fun J=>?_) (fun J=>?_)
 · have e:dx (k+1) v=[110,117,108,108]:=by rw [lW,if_pos J]
   rw [e] at ea U
   try simp only [List.length_append,List.length_cons,List.length_nil] at ea
   refine dw [0] [.obj (.bX 112 5 ((base++([110,117,108,108]:List UInt8)).map bC))] (.aI (.tuple [.int .i64 (([110,117,108,108]:List UInt8).length:Int), .nilIface])) rfl (fun bs ai gd=>fG (bs.getD 0 0) base ([110,117,108,108]:List UInt8) (by first|omega|(simp only [List.length_append,List.length_cons,List.length_nil];omega)) ai) ?_
   refine rt rfl fun _=>?_
   show K (.tuple []) (ae.aS m [(b, .bX 112 5 ((base++([110,117,108,108]:List UInt8)).map bC))])
   exact U
 refine ag (fun aa=>?_) (fun aa=>?_)
 · have e:dx (k+1) v=Lib.itoa v.n:=by rw [lW,if_neg J,if_pos aa]
   rw [e] at ea U
   try simp only [List.length_append,List.length_cons,List.length_nil] at ea
   refine hG [] [] (ay (Lib.itoa v.n)) rfl (fun bs ai gd aq=>SM v.n (by have:=yp lI (by assumption);omega) (by have:=yp lI (by assumption);omega) ai (cW.up aq aP)) ?_
   refine dw [0] [.obj (.bX 112 5 ((base++(Lib.itoa v.n)).map bC))] (.aI (.tuple [.int .i64 ((Lib.itoa v.n).length:Int), .nilIface])) rfl (fun bs ai gd=>fG (bs.getD 0 0) base (Lib.itoa v.n) (by first|omega|(simp only [List.length_append,List.length_cons,List.length_nil];omega)) ai) ?_
   refine rt rfl fun _=>?_
   show K (.tuple []) (ae.aS m [(b, .bX 112 5 ((base++(Lib.itoa v.n)).map bC))])
   exact U
 refine ag (fun aj=>?_) (fun aj=>?_)
 · have e:dx (k+1) v=nD v.s:=by rw [lW,if_neg J,if_neg aa,if_pos aj]
   rw [e] at ea U
   try simp only [List.length_append,List.length_cons,List.length_nil] at ea
   refine cG (fun _=>SF v.s (by have:=Ez lI (by assumption);omega)) rfl ?_
   refine dw [0] [.obj (.bX 112 5 ((base++(nD v.s)).map bC))] (.aI (.tuple [.int .i64 ((nD v.s).length:Int), .nilIface])) rfl (fun bs ai gd=>fG (bs.getD 0 0) base (nD v.s) (by first|omega|(simp only [List.length_append,List.length_cons,List.length_nil];omega)) ai) ?_
   refine rt rfl fun _=>?_
   show K (.tuple []) (ae.aS m [(b, .bX 112 5 ((base++(nD v.s)).map bC))])
   exact U
 refine ag (fun aG=>?_) (fun aG=>?_)
 · have e:dx (k+1) v=lv (v.n==1):=by rw [lW,if_neg J,if_neg aa,if_neg aj,if_pos aG]
   rw [e] at ea U
   try simp only [List.length_append,List.length_cons,List.length_nil] at ea
   refine cG (fun _=>SO ((v.n==1))) rfl ?_
   refine dw [0] [.obj (.bX 112 5 ((base++(lv ((v.n==1)))).map bC))] (.aI (.tuple [.int .i64 ((lv ((v.n==1))).length:Int), .nilIface])) rfl (fun bs ai gd=>fG (bs.getD 0 0) base (lv ((v.n==1))) (by first|omega|(simp only [List.length_append,List.length_cons,List.length_nil];omega)) ai) ?_
   refine rt rfl fun _=>?_
   show K (.tuple []) (ae.aS m [(b, .bX 112 5 ((base++(lv ((v.n==1)))).map bC))])
   exact U
 refine ag (fun aR=>?_) (fun aR=>?_)
 · have e:dx (k+1) v=[91]++eo (dx k) v.l true++[93]:=by rw [lW,if_neg J,if_neg aa,if_neg aj,if_neg aG,if_pos aR]
   rw [e] at ea U
   try simp only [List.length_append,List.length_cons,List.length_nil] at ea
   refine dw [0] [.obj (.bX 112 5 ((base++([91]:List UInt8)).map bC))] (.aI (.tuple [.int .i64 (([91]:List UInt8).length:Int), .nilIface])) rfl (fun bs ai gd=>fG (bs.getD 0 0) base ([91]:List UInt8) (by first|omega|(simp only [List.length_append,List.length_cons,List.length_nil];omega)) ai) ?_
   refine aB ?_
   refine bN ?_
   refine cH (σ:=Int×ar) [] [0,41,42,43] 2 (fun ⟨i,cR⟩=>([(0, .loc 0 0),(41,aH (v.l.map cn)),(42,ax (v.l.length:Int)),(43,ax i)],[.obj (.bX 112 5 (cR.map bC)), .cells [ax v.kind,ax v.n,ay v.s,aH (v.l.map cn),aH (v.f.map cB)]],m)) (fun ⟨i,cR⟩=>0≤i∧i≤v.l.length∧base++[91]++eo (dx k) v.l true=cR++eo (dx k) (v.l.drop i.toNat) (i==0)) (fun ⟨i,cR⟩=>v.l.length- i.toNat) (0,base++([91]:List UInt8)) ⟨rfl,rfl⟩ ?_ ?_
   · try dsimp only
     exact ⟨by omega,by omega,rfl⟩
   rintro ⟨i,cR⟩ aE
   dsimp only at aE
   have aD:=congrArg List.length aE.2.2
   simp only [List.length_append,List.length_cons,List.length_nil] at aD
   refine aB ?_
   refine ag (fun bu=>?_) (fun bu=>?_)
   · refine aB ?_
     refine fc cV h4 (by omega) ?_
     refine aB ?_
     refine ag (fun cD=>?_) (fun cD=>?_)
     · have b4:=tr (g:=dx k) aE.1 bu cD
       have fN:=congrArg List.length b4
       simp only [List.length_append,List.length_cons,List.length_nil] at fN
       refine dw [0] [.obj (.bX 112 5 ((cR++([44,32]:List UInt8)).map bC))] (.aI (.tuple [.int .i64 (([44,32]:List UInt8).length:Int), .nilIface])) rfl (fun bs ai gd=>fG (bs.getD 0 0) cR ([44,32]:List UInt8) (by first|omega|(simp only [List.length_append,List.length_cons,List.length_nil];omega)) ai) ?_
       refine hG [0] [.obj (.bX 112 5 (((cR++([44,32]:List UInt8))++dx k (I v.l i)).map bC))] (.da []) rfl (fun bs ai gd aq=>aO (I v.l i) (cR++([44,32]:List UInt8)) (by have:=ha v;first|(have:=hH (bF (l:=v.l) (i:=i) aE.1 (by assumption));omega)|(have:=hI (bF (l:=v.f) (i:=i2) aE.1 (by assumption));omega)) (by first|exact oT _ (bF (l:=v.f) (i:=i2) aE.1 (by assumption))|exact ml _ (bF (l:=v.l) (i:=i) aE.1 (by assumption))) (by first|omega|(simp only [List.length_append,List.length_cons,List.length_nil];omega)) (bs.getD 0 0) ai gd (cW.up aq aP)) ?_
       refine ag (by omega) ?_
       refine ⟨(i+1,(cR++([44,32]:List UInt8))++dx k (I v.l i)),⟨rfl,rfl⟩,?_,?_⟩
       · try dsimp only
         exact ⟨by omega,by omega,by rw [aE.2.2,b4];simp only [List.append_assoc,List.nil_append]⟩
       try dsimp only
       omega
     have b4:=tq (g:=dx k) aE.1 bu cD
     have fN:=congrArg List.length b4
     simp only [List.length_append,List.length_cons,List.length_nil] at fN
     refine hG [0] [.obj (.bX 112 5 ((cR++dx k (I v.l i)).map bC))] (.da []) rfl (fun bs ai gd aq=>aO (I v.l i) cR (by have:=ha v;first|(have:=hH (bF (l:=v.l) (i:=i) aE.1 (by assumption));omega)|(have:=hI (bF (l:=v.f) (i:=i2) aE.1 (by assumption));omega)) (by first|exact oT _ (bF (l:=v.f) (i:=i2) aE.1 (by assumption))|exact ml _ (bF (l:=v.l) (i:=i) aE.1 (by assumption))) (by first|omega|(simp only [List.length_append,List.length_cons,List.length_nil];omega)) (bs.getD 0 0) ai gd (cW.up aq aP)) ?_
     refine ag (by omega) ?_
     refine ⟨(i+1,cR++dx k (I v.l i)),⟨rfl,rfl⟩,?_,?_⟩
     · try dsimp only
       exact ⟨by omega,by omega,by rw [aE.2.2,b4];simp only [List.append_assoc,List.nil_append]⟩
     try dsimp only
     omega
   refine dw [0] [.obj (.bX 112 5 ((cR++([93]:List UInt8)).map bC))] (.aI (.tuple [.int .i64 (([93]:List UInt8).length:Int), .nilIface])) rfl (fun bs ai gd=>fG (bs.getD 0 0) cR ([93]:List UInt8) (by first|omega|(simp only [List.length_append,List.length_cons,List.length_nil];omega)) ai) ?_
   refine rt rfl fun _=>?_
   show K (.tuple []) (ae.aS m [(b, .bX 112 5 ((cR++([93]:List UInt8)).map bC))])
   have az:base++([91]++eo (dx k) v.l true++[93])=cR++[93]:=by
    have:=aE.2.2
    rw [ts (by omega),List.append_nil] at this
    rw [←this];simp only [List.append_assoc]
   rw [az] at U;exact U
 refine ag (fun cK=>?_) (fun cK=>?_)
 · have e:dx (k+1) v=[123]++eo (fun p:ar×aW=>p.1++[58,32]++dx k p.2) v.f true++[125]:=by rw [lW,if_neg J,if_neg aa,if_neg aj,if_neg aG,if_neg aR,if_pos cK]
   rw [e] at ea U
   try simp only [List.length_append,List.length_cons,List.length_nil] at ea
   refine dw [0] [.obj (.bX 112 5 ((base++([123]:List UInt8)).map bC))] (.aI (.tuple [.int .i64 (([123]:List UInt8).length:Int), .nilIface])) rfl (fun bs ai gd=>fG (bs.getD 0 0) base ([123]:List UInt8) (by first|omega|(simp only [List.length_append,List.length_cons,List.length_nil];omega)) ai) ?_
   refine aB ?_
   refine bN ?_
   refine cH (σ:=Int×ar) [] [0,63,64,65] 2 (fun ⟨i2,cR⟩=>([(0, .loc 0 0),(63,aH (v.f.map cB)),(64,ax (v.f.length:Int)),(65,ax i2)],[.obj (.bX 112 5 (cR.map bC)), .cells [ax v.kind,ax v.n,ay v.s,aH (v.l.map cn),aH (v.f.map cB)]],m)) (fun ⟨i2,cR⟩=>0≤i2∧i2≤v.f.length∧base++[123]++eo (fun p:ar×aW=>p.1++[58,32]++dx k p.2) v.f true=cR++eo (fun p:ar×aW=>p.1++[58,32]++dx k p.2) (v.f.drop i2.toNat) (i2==0)) (fun ⟨i2,cR⟩=>v.f.length- i2.toNat) (0,base++([123]:List UInt8)) ⟨rfl,rfl⟩ ?_ ?_
   · try dsimp only
     exact ⟨by omega,by omega,rfl⟩
   rintro ⟨i2,cR⟩ aE
   dsimp only at aE
   have aD:=congrArg List.length aE.2.2
   simp only [List.length_append,List.length_cons,List.length_nil] at aD
   refine aB ?_
   refine ag (fun cC=>?_) (fun cC=>?_)
   · refine aB ?_
     refine fc h3 hT (by omega) ?_
     refine aB ?_
     refine ag (fun eg=>?_) (fun eg=>?_)
     · have b4:=tr (g:=fun p:ar×aW=>p.1++[58,32]++dx k p.2) aE.1 cC eg
       have fN:=congrArg List.length b4
       simp only [List.length_append,List.length_cons,List.length_nil] at fN
       refine dw [0] [.obj (.bX 112 5 ((cR++([44,32]:List UInt8)).map bC))] (.aI (.tuple [.int .i64 (([44,32]:List UInt8).length:Int), .nilIface])) rfl (fun bs ai gd=>fG (bs.getD 0 0) cR ([44,32]:List UInt8) (by first|omega|(simp only [List.length_append,List.length_cons,List.length_nil];omega)) ai) ?_
       refine ag (by (simp only [List.length_cons,List.length_nil];omega)) ?_
       refine dw [0] [.obj (.bX 112 5 (((cR++([44,32]:List UInt8))++(((I v.f i2).1)++([58,32]:List UInt8))).map bC))] (.aI (.tuple [.int .i64 ((((I v.f i2).1)++([58,32]:List UInt8)).length:Int), .nilIface])) rfl (fun bs ai gd=>fG (bs.getD 0 0) (cR++([44,32]:List UInt8)) (((I v.f i2).1)++([58,32]:List UInt8)) (by first|omega|(simp only [List.length_append,List.length_cons,List.length_nil];omega)) ai) ?_
       refine hG [0] [.obj (.bX 112 5 ((((cR++([44,32]:List UInt8))++(((I v.f i2).1)++([58,32]:List UInt8)))++dx k ((I v.f i2).2)).map bC))] (.da []) rfl (fun bs ai gd aq=>aO ((I v.f i2).2) ((cR++([44,32]:List UInt8))++(((I v.f i2).1)++([58,32]:List UInt8))) (by have:=ha v;first|(have:=hH (bF (l:=v.l) (i:=i) aE.1 (by assumption));omega)|(have:=hI (bF (l:=v.f) (i:=i2) aE.1 (by assumption));omega)) (by first|exact oT _ (bF (l:=v.f) (i:=i2) aE.1 (by assumption))|exact ml _ (bF (l:=v.l) (i:=i) aE.1 (by assumption))) (by first|omega|(simp only [List.length_append,List.length_cons,List.length_nil];omega)) (bs.getD 0 0) ai gd (cW.up aq aP)) ?_
       refine ag (by omega) ?_
       refine ⟨(i2+1,((cR++([44,32]:List UInt8))++(((I v.f i2).1)++([58,32]:List UInt8)))++dx k ((I v.f i2).2)),⟨rfl,rfl⟩,?_,?_⟩
       · try dsimp only
         exact ⟨by omega,by omega,by rw [aE.2.2,b4];simp only [List.append_assoc,List.nil_append]⟩
       try dsimp only
       omega
     have b4:=tq (g:=fun p:ar×aW=>p.1++[58,32]++dx k p.2) aE.1 cC eg
     have fN:=congrArg List.length b4
     simp only [List.length_append,List.length_cons,List.length_nil] at fN
     refine ag (by (simp only [List.length_cons,List.length_nil];omega)) ?_
     refine dw [0] [.obj (.bX 112 5 ((cR++(((I v.f i2).1)++([58,32]:List UInt8))).map bC))] (.aI (.tuple [.int .i64 ((((I v.f i2).1)++([58,32]:List UInt8)).length:Int), .nilIface])) rfl (fun bs ai gd=>fG (bs.getD 0 0) cR (((I v.f i2).1)++([58,32]:List UInt8)) (by first|omega|(simp only [List.length_append,List.length_cons,List.length_nil];omega)) ai) ?_
     refine hG [0] [.obj (.bX 112 5 (((cR++(((I v.f i2).1)++([58,32]:List UInt8)))++dx k ((I v.f i2).2)).map bC))] (.da []) rfl (fun bs ai gd aq=>aO ((I v.f i2).2) (cR++(((I v.f i2).1)++([58,32]:List UInt8))) (by have:=ha v;first|(have:=hH (bF (l:=v.l) (i:=i) aE.1 (by assumption));omega)|(have:=hI (bF (l:=v.f) (i:=i2) aE.1 (by assumption));omega)) (by first|exact oT _ (bF (l:=v.f) (i:=i2) aE.1 (by assumption))|exact ml _ (bF (l:=v.l) (i:=i) aE.1 (by assumption))) (by first|omega|(simp only [List.length_append,List.length_cons,List.length_nil];omega)) (bs.getD 0 0) ai gd (cW.up aq aP)) ?_
     refine ag (by omega) ?_
     refine ⟨(i2+1,(cR++(((I v.f i2).1)++([58,32]:List UInt8)))++dx k ((I v.f i2).2)),⟨rfl,rfl⟩,?_,?_⟩
     · try dsimp only
       exact ⟨by omega,by omega,by rw [aE.2.2,b4];simp only [List.append_assoc,List.nil_append]⟩
     try dsimp only
     omega
   refine dw [0] [.obj (.bX 112 5 ((cR++([125]:List UInt8)).map bC))] (.aI (.tuple [.int .i64 (([125]:List UInt8).length:Int), .nilIface])) rfl (fun bs ai gd=>fG (bs.getD 0 0) cR ([125]:List UInt8) (by first|omega|(simp only [List.length_append,List.length_cons,List.length_nil];omega)) ai) ?_
   refine rt rfl fun _=>?_
   show K (.tuple []) (ae.aS m [(b, .bX 112 5 ((cR++([125]:List UInt8)).map bC))])
   have az:base++([123]++eo (fun p:ar×aW=>p.1++[58,32]++dx k p.2) v.f true++[125])=cR++[125]:=by
    have:=aE.2.2
    rw [ts (by omega),List.append_nil] at this
    rw [←this];simp only [List.append_assoc]
   rw [az] at U;exact U
 exact absurd ⟨J,aa,aj,aG,aR,cK⟩ (JT lI)
end Go.Proofs
end
section
namespace Go.Proofs
open Go Go.bg Go.cz
set_option maxRecDepth 100000
theorem yq {α:Type} {g:α→ar} {d:α→Nat} {c:Nat}:∀(l:List α) (b:Bool),(∀x∈l,(g x).length+2≤c*d x)→(eo g l b).length≤c*hb d l
 |[],b,_=>by rw [eo];simp
 |x::r,b,h=>by
  have J:=h x (List.mem_cons_self ..)
  have aa:=yq r false fun y aK=>h y (List.mem_cons_of_mem _ aK)
  rw [eo,hb,Nat.mul_add]
  have aj:(if b=true then ([]:ar) else [44,32]).length≤2:=by split<;>simp
  rw [List.length_append,List.length_append]
  omega
theorem JU:∀(l:List (ar×aW)) (p:Option ar),lp p l=true→∀q∈l,q.1.length≤12
 |[],_,_,q,aU=>by cases aU
 |f::r,p,h,q,aU=>by
  rw [Jq,Bool.and_eq_true,Bool.and_eq_true] at h
  rcases List.mem_cons.1 aU with rfl|aU
  · have:=h.1.1
    unfold cu at this
    simp only [Bool.and_eq_true,decide_eq_true_eq] at this
    omega
  · exact JU r _ h.2 q aU
theorem EA:∀(k:Nat) (v:aW),dC k v=true→(dx k v).length+20≤200*bI v
 |0,_,h=>by cases h
 |k+1,v,h=>by
  obtain ⟨J,aa,aj⟩:=Ey h
  have e:=ha v
  rw [lW]
  split
  · simp;omega
  split
  · rename_i al
    have:=yp J al
    have:=AQ (n:=v.n) (by omega) (by omega)
    omega
  split
  · rename_i al
    have:=Ez J al
    have:=JK v.s
    simp only [nD,List.length_append,List.length_cons,List.length_nil]
    omega
  split
  · unfold lv;split<;>simp<;>omega
  split
  · have:=yq (g:=dx k) (d:=bI) (c:=200) v.l true fun x an=>by have:=EA k x (aa x an);omega
    rw [AH] at this
    simp only [List.length_append,List.length_cons,List.length_nil]
    omega
  split
  · rename_i EB py np JV SQ al
    have aA:lp none v.f=true:=by
     rw [fK,if_neg EB,if_neg py,if_neg np,if_neg JV,if_neg SQ,if_pos al,Bool.and_eq_true] at J
     exact J.2
    have:=yq (g:=fun p:ar×aW=>p.1++[58,32]++dx k p.2) (d:=fun p=>bI p.2) (c:=200) v.f true fun x an=>by
     have:=EA k x.2 (aj x an)
     have:=JU _ _ aA x an
     simp only [List.length_append,List.length_cons,List.length_nil]
     omega
    rw [AI] at this
    simp only [List.length_append,List.length_cons,List.length_nil]
    omega
  · simp;omega
theorem yr {v:aW} (h:b1 v=0):dC (bI v+1) v=true∧bI v≤60:=by
 have ao:=h
 unfold b1 at ao
 split at ao
 · rename_i c
   refine ⟨Em ao,?_⟩
   have:=rV (bI v+1) 1 v 60 (by omega) c
   omega
 · cases ao
theorem JW:∀(k:Nat) (v:aW) (base:ar),bI v<k→dC k v=true→base.length+(dx k v).length≤140737488355328→∀(b:Nat) (m:ae),eC [b] m→cW m→∀(K:ab→ae→Prop),K (.tuple []) (ae.aS m [(b, .bX 112 5 ((base++dx k v).map bC))])→bh Tryz.prog 148 [.ptr ⟨b,0,none⟩,cV v] (ae.aS m [(b, .bX 112 5 (base.map bC))]) K
 |0,_,_,h=>absurd h (Nat.not_lt_zero _)
 |k+1,v,base,h=>fun aw ea b m gd aP K U=>SP k v base b (JW k) h aw ea m gd K aP U
def h6 (v:aW):ar:=dx (bI v+1) v
theorem vy {v:aW} (h:b1 v=0):(h6 v).length≤12000:=by
 have:=EA _ v (yr h).1
 have:=(yr h).2
 unfold h6;omega
theorem SR (v:aW) (m:ae) (K:ab→ae→Prop) (aP:cW m) (U:K (.tuple [.str (if b1 v=0 then h6 v else []), .err 115 (b1 v)]) m):bh Tryz.prog 81 [cV v] m K:=by
 refine enter (c:=cT [] [] [] [] [] []) (vs:=[.aI (cV v)]) (L:=[]) (m:=m) true b2 Tryz.mixed Tryz.func81 rfl (k:=1) (by show cO [] _ _ _=true;decide+kernel) rfl (Good.nil m) ?_
 refine cG (fun _=>Ju v) rfl ?_
 refine aB ?_
 refine ag (fun J=>?_) (fun J=>?_)
 · rw [if_pos J,J] at U
   refine D9 (eb:=5) vx.choose_spec.1 vx.choose_spec.2 rfl ?_
   refine hG [1] [.obj (.bX 112 5 ((([]:ar)++dx (bI v+1) v).map bC))] (.da []) rfl (fun bs ai gd aq=>JW (bI v+1) v ([]:ar) (Nat.lt_succ_self _) (yr (by assumption)).1 (by have:=vy (v:=v) (by assumption);unfold h6 at this;simp only [List.length_nil];omega) (bs.getD 1 0) ai gd (cW.up aq aP)) ?_
   refine dw [1] [.cells [.aI (.aV), .aI (.aV)]] (ay (([]:ar)++dx (bI v+1) v)) rfl (fun bs ai gd=>Ex (bs.getD 1 0) (([]:ar)++dx (bI v+1) v) ai) ?_
   refine bn rfl fun _=>?_
   show K (.tuple [.str (([]:ar)++dx (bI v+1) v), .err 115 0]) m
   exact U
 rw [if_neg J] at U
 refine bn rfl fun _=>?_
 show K (.tuple [.str ([]), .err 115 (b1 v)]) m
 exact U
end Go.Proofs
end
section
namespace Go.Proofs
open Go Go.bg Go.cz
set_option maxRecDepth 100000
set_option maxHeartbeats 2000000 in
theorem SS (k:Nat) (v:aW) (aO:∀w:aW,bI w<k→dC k w=true→(dx k w).length≤1000000→∀(m:ae) (K:ab→ae→Prop),K (.str (dx k w)) m→bh Tryz.prog 61 [cV w] m K) (aY:bI v<k+1) (vr:dC (k+1) v=true) (ea:(dx (k+1) v).length≤1000000) (m:ae) (K:ab→ae→Prop) (U:K (.str (dx (k+1) v)) m):bh Tryz.prog 61 [cV v] m K:=by
 obtain ⟨lI,ml,oT⟩:=Ey vr
 refine enter (c:=cT [] [0] [] [] [] []) (vs:=[.aI (cV v)]) (L:=[]) (m:=m) false b2 Tryz.mixed Tryz.func61 rfl (k:=1) (by show cO [] _ _ _=true;decide+kernel) rfl (Good.nil m) ?_
 refine ⟨fun bJ=>?_⟩
 have o6:v.s.length≤140737488355328:=(bJ 0 2 (Nat.le_of_ble_eq_true rfl))
 have kq:v.l.length≤140737488355328:=dr (bJ 0 3 (Nat.le_of_ble_eq_true rfl))
 have mC:v.f.length≤140737488355328:=dr (bJ 0 4 (Nat.le_of_ble_eq_true rfl))
 refine aB ?_
 refine ag (fun J=>?_) (fun J=>?_)
 · have e:dx (k+1) v=Lib.itoa v.n:=by rw [lW,if_neg (by omega),if_pos J]
   rw [e] at ea U
   try simp only [List.length_append,List.length_cons,List.length_nil] at ea
   refine cG (fun _=>SK v.n (by have:=yp lI (by assumption);omega) (by have:=yp lI (by assumption);omega)) rfl ?_
   exact bn rfl fun _=>U
 refine ag (fun aa=>?_) (fun aa=>?_)
 · have e:dx (k+1) v=nD v.s:=by rw [lW,if_neg (by omega),if_neg (by omega),if_pos aa]
   rw [e] at ea U
   try simp only [List.length_append,List.length_cons,List.length_nil] at ea
   refine cG (fun _=>SG v.s (by have:=Ez lI (by assumption);omega)) rfl ?_
   exact bn rfl fun _=>U
 refine ag (fun aj=>?_) (fun aj=>?_)
 · refine aB ?_
   refine ag (fun aG=>?_) (fun aG=>?_)
   · have e:dx (k+1) v=[116,114,117,101]:=by rw [lW,if_neg (by omega),if_neg (by omega),if_neg (by omega),if_pos aj,lv,if_pos (by simp [aG])]
     rw [e] at ea U
     try simp only [List.length_append,List.length_cons,List.length_nil] at ea
     exact bn rfl fun _=>U
   have e:dx (k+1) v=[102,97,108,115,101]:=by rw [lW,if_neg (by omega),if_neg (by omega),if_neg (by omega),if_pos aj,lv,if_neg (by simp [aG])]
   rw [e] at ea U
   try simp only [List.length_append,List.length_cons,List.length_nil] at ea
   exact bn rfl fun _=>U
 refine ag (fun aR=>?_) (fun aR=>?_)
 · have e:dx (k+1) v=[91]++eo (dx k) v.l true++[93]:=by rw [lW,if_neg (by omega),if_neg (by omega),if_neg (by omega),if_neg (by omega),if_pos aR]
   rw [e] at ea U
   try simp only [List.length_append,List.length_cons,List.length_nil] at ea
   refine aB ?_
   refine cH (σ:=(List UInt8)×Int) [] [1,3,4] 1 (fun ⟨s,i⟩=>([(1, .loc 0 0),(3,ay s),(4,ax i)],[.cells [ax v.kind,ax v.n,ay v.s,aH (v.l.map cn),aH (v.f.map cB)]],m)) (fun ⟨s,i⟩=>0≤i∧i≤v.l.length∧eo (dx k) v.l true=s++eo (dx k) (v.l.drop i.toNat) (i==0)) (fun ⟨s,i⟩=>v.l.length- i.toNat) ([],0) ⟨rfl,rfl⟩ ?_ ?_
   · try dsimp only
     exact ⟨by omega,by omega,rfl⟩
   rintro ⟨s,i⟩ aE
   dsimp only at aE
   have aD:=congrArg List.length aE.2.2
   simp only [List.length_append,List.length_cons,List.length_nil] at aD
   refine aB ?_
   refine bN ?_
   refine ag (fun bu=>?_) (fun bu=>?_)
   · refine aB ?_
     refine aB ?_
     refine ag (fun cD=>?_) (fun cD=>?_)
     · have b4:=tr (g:=dx k) aE.1 bu cD
       have fN:=congrArg List.length b4
       simp only [List.length_append,List.length_cons,List.length_nil] at fN
       refine ag (by (first|omega|(simp only [List.length_append,List.length_cons,List.length_nil];omega))) ?_
       refine fc cV h4 (by omega) ?_
       refine cG (fun _=>aO (I v.l i) (by have:=ha v;first|(have:=hI (bF (l:=v.f) (i:=i2) aE.1 (by assumption));omega)|(have:=hH (bF (l:=v.l) (i:=i) aE.1 (by assumption));omega)) (by first|exact oT _ (bF (l:=v.f) (i:=i2) aE.1 (by assumption))|exact ml _ (bF (l:=v.l) (i:=i) aE.1 (by assumption))) (by omega)) rfl ?_
       refine ag (by (first|omega|(simp only [List.length_append,List.length_cons,List.length_nil];omega))) ?_
       refine ag (by omega) ?_
       refine ⟨((s++([44,32]:List UInt8))++(dx k (I v.l i)),i+1),⟨rfl,rfl⟩,?_,?_⟩
       · try dsimp only
         exact ⟨by omega,by omega,by rw [aE.2.2,b4];simp only [List.append_assoc,List.nil_append]⟩
       try dsimp only
       omega
     have b4:=tq (g:=dx k) aE.1 bu cD
     have fN:=congrArg List.length b4
     simp only [List.length_append,List.length_cons,List.length_nil] at fN
     refine fc cV h4 (by omega) ?_
     refine cG (fun _=>aO (I v.l i) (by have:=ha v;first|(have:=hI (bF (l:=v.f) (i:=i2) aE.1 (by assumption));omega)|(have:=hH (bF (l:=v.l) (i:=i) aE.1 (by assumption));omega)) (by first|exact oT _ (bF (l:=v.f) (i:=i2) aE.1 (by assumption))|exact ml _ (bF (l:=v.l) (i:=i) aE.1 (by assumption))) (by omega)) rfl ?_
     refine ag (by (first|omega|(simp only [List.length_append,List.length_cons,List.length_nil];omega))) ?_
     refine ag (by omega) ?_
     refine ⟨(s++(dx k (I v.l i)),i+1),⟨rfl,rfl⟩,?_,?_⟩
     · try dsimp only
       exact ⟨by omega,by omega,by rw [aE.2.2,b4];simp only [List.append_assoc,List.nil_append]⟩
     try dsimp only
     omega
   refine ag (by (first|omega|(simp only [List.length_append,List.length_cons,List.length_nil];omega))) ?_
   refine ag (by (first|omega|(simp only [List.length_append,List.length_cons,List.length_nil];omega))) ?_
   refine bn rfl fun _=>?_
   show K (.str ((([91]:List UInt8)++s)++([93]:List UInt8))) m
   have az:[91]++eo (dx k) v.l true++[93]=[91]++s++[93]:=by rw [aE.2.2,ts (by omega),List.append_nil]
   rw [az] at U;exact U
 refine ag (fun cK=>?_) (fun cK=>?_)
 · have e:dx (k+1) v=[123]++eo (fun p:ar×aW=>p.1++[58,32]++dx k p.2) v.f true++[125]:=by rw [lW,if_neg (by omega),if_neg (by omega),if_neg (by omega),if_neg (by omega),if_neg (by omega),if_pos cK]
   rw [e] at ea U
   try simp only [List.length_append,List.length_cons,List.length_nil] at ea
   refine aB ?_
   refine cH (σ:=(List UInt8)×Int) [] [1,5,6] 1 (fun ⟨s,i2⟩=>([(1, .loc 0 0),(5,ay s),(6,ax i2)],[.cells [ax v.kind,ax v.n,ay v.s,aH (v.l.map cn),aH (v.f.map cB)]],m)) (fun ⟨s,i2⟩=>0≤i2∧i2≤v.f.length∧eo (fun p:ar×aW=>p.1++[58,32]++dx k p.2) v.f true=s++eo (fun p:ar×aW=>p.1++[58,32]++dx k p.2) (v.f.drop i2.toNat) (i2==0)) (fun ⟨s,i2⟩=>v.f.length- i2.toNat) ([],0) ⟨rfl,rfl⟩ ?_ ?_
   · try dsimp only
     exact ⟨by omega,by omega,rfl⟩
   rintro ⟨s,i2⟩ aE
   dsimp only at aE
   have aD:=congrArg List.length aE.2.2
   simp only [List.length_append,List.length_cons,List.length_nil] at aD
   refine aB ?_
   refine bN ?_
   refine ag (fun cC=>?_) (fun cC=>?_)
   · refine aB ?_
     refine aB ?_
     refine ag (fun eg=>?_) (fun eg=>?_)
     · have b4:=tr (g:=fun p:ar×aW=>p.1++[58,32]++dx k p.2) aE.1 cC eg
       have fN:=congrArg List.length b4
       simp only [List.length_append,List.length_cons,List.length_nil] at fN
       refine ag (by (first|omega|(simp only [List.length_append,List.length_cons,List.length_nil];omega))) ?_
       refine fc h3 hT (by omega) ?_
       refine ag (by (first|omega|(simp only [List.length_append,List.length_cons,List.length_nil];omega))) ?_
       refine ag (by (first|omega|(simp only [List.length_append,List.length_cons,List.length_nil];omega))) ?_
       refine fc h3 hT (by omega) ?_
       refine gN (fun _=>aO ((I v.f i2).2) (by have:=ha v;first|(have:=hI (bF (l:=v.f) (i:=i2) aE.1 (by assumption));omega)|(have:=hH (bF (l:=v.l) (i:=i) aE.1 (by assumption));omega)) (by first|exact oT _ (bF (l:=v.f) (i:=i2) aE.1 (by assumption))|exact ml _ (bF (l:=v.l) (i:=i) aE.1 (by assumption))) (by omega)) ?_
       refine ag (by (first|omega|(simp only [List.length_append,List.length_cons,List.length_nil];omega))) ?_
       refine ag (by omega) ?_
       refine ⟨((((s++([44,32]:List UInt8))++((I v.f i2).1))++([58,32]:List UInt8))++(dx k ((I v.f i2).2)),i2+1),⟨rfl,rfl⟩,?_,?_⟩
       · try dsimp only
         exact ⟨by omega,by omega,by rw [aE.2.2,b4];simp only [List.append_assoc,List.nil_append]⟩
       try dsimp only
       omega
     have b4:=tq (g:=fun p:ar×aW=>p.1++[58,32]++dx k p.2) aE.1 cC eg
     have fN:=congrArg List.length b4
     simp only [List.length_append,List.length_cons,List.length_nil] at fN
     refine fc h3 hT (by omega) ?_
     refine ag (by (first|omega|(simp only [List.length_append,List.length_cons,List.length_nil];omega))) ?_
     refine ag (by (first|omega|(simp only [List.length_append,List.length_cons,List.length_nil];omega))) ?_
     refine fc h3 hT (by omega) ?_
     refine gN (fun _=>aO ((I v.f i2).2) (by have:=ha v;first|(have:=hI (bF (l:=v.f) (i:=i2) aE.1 (by assumption));omega)|(have:=hH (bF (l:=v.l) (i:=i) aE.1 (by assumption));omega)) (by first|exact oT _ (bF (l:=v.f) (i:=i2) aE.1 (by assumption))|exact ml _ (bF (l:=v.l) (i:=i) aE.1 (by assumption))) (by omega)) ?_
     refine ag (by (first|omega|(simp only [List.length_append,List.length_cons,List.length_nil];omega))) ?_
     refine ag (by omega) ?_
     refine ⟨(((s++((I v.f i2).1))++([58,32]:List UInt8))++(dx k ((I v.f i2).2)),i2+1),⟨rfl,rfl⟩,?_,?_⟩
     · try dsimp only
       exact ⟨by omega,by omega,by rw [aE.2.2,b4];simp only [List.append_assoc,List.nil_append]⟩
     try dsimp only
     omega
   refine ag (by (first|omega|(simp only [List.length_append,List.length_cons,List.length_nil];omega))) ?_
   refine ag (by (first|omega|(simp only [List.length_append,List.length_cons,List.length_nil];omega))) ?_
   refine bn rfl fun _=>?_
   show K (.str ((([123]:List UInt8)++s)++([125]:List UInt8))) m
   have az:[123]++eo (fun p:ar×aW=>p.1++[58,32]++dx k p.2) v.f true++[125]=[123]++s++[125]:=by rw [aE.2.2,ts (by omega),List.append_nil]
   rw [az] at U;exact U
 refine bn rfl fun _=>?_
 show K (.str ([110,117,108,108]:List UInt8)) m
 have EB:v.kind=0:=Classical.byContradiction fun aJ=>JT lI ⟨aJ,J,aa,aj,aR,cK⟩
 have e:dx (k+1) v=[110,117,108,108]:=by rw [lW,if_pos EB]
 rw [e] at U;exact U
theorem EC:∀(k:Nat) (v:aW),bI v<k→dC k v=true→(dx k v).length≤1000000→∀(m:ae) (K:ab→ae→Prop),K (.str (dx k v)) m→bh Tryz.prog 61 [cV v] m K
 |0,_,h=>absurd h (Nat.not_lt_zero _)
 |k+1,v,h=>fun aw ea m K U=>SS k v (EC k) h aw ea m K U
end Go.Proofs
end
section
namespace Go.Proofs
open Go Go.bg
set_option maxRecDepth 100000
theorem AR (e f:Int) (he:0≤e) (m:ae) (K:ab→ae→Prop) (U:K (.bool (e==f)) m):bh Tryz.prog 13 [.err 115 e, .int .i64 f] m K:=by
 refine G9 Tryz.func13 rfl (by decide) (Nat.le_of_ble_eq_true rfl) ?_
 show dS _ _ _ _ [(0, .err 115 e),(1, .int .i64 f)] m
 refine uQ [] [0,1] (by decide) ?_
 intro mL mM
 refine ⟨trivial,?_⟩
 show mL [(0, .err 115 e),(1, .int .i64 f)] m
 refine mM _ _ ?_;clear mM mL
 refine B4 ?_;intro Xc JX
 refine uQ [] [0,1,8] (by decide) ?_
 intro mL mM
 refine ⟨trivial,⟨rfl,rfl⟩,?_⟩
 show mL [(0, .err 115 e),(1, .int .i64 f),(8, .bool (e==0))] m
 refine mM _ _ ?_;clear mM mL
 refine B5 rfl rfl (fun J=>?_) (fun J=>?_)
 ·
  replace J:e=0:=(eq_of_beq J)
  refine uQ [] [4] (by decide) ?_
  intro mL mM
  refine ⟨trivial,trivial,trivial,?_⟩
  show mL [(4, .bool (f==0))] m
  refine mM _ _ ?_;clear mM mL
  refine B3 ?_
  refine ⟨trivial,m,fun _ _ h=>h,?_⟩
  show K (.bool (f==0)) m
  refine cL U (congrArg ab.bool ?_)
  rw [Bool.eq_iff_iff];simp;omega
 replace J:e≠0:=(ne_of_beq_false J)
 refine Gp ?_
 refine JX _ _ ?_;clear JX
 refine uQ [] [1,5,6] (by decide) ?_
 intro mL mM
 refine ⟨trivial,rfl,trivial,(Nat.le_of_ble_eq_true rfl),(Nat.le_of_ble_eq_true rfl),trivial,trivial,?_⟩
 show mL [(1, .int .i64 f),(5, .int .i64 e),(6, .bool (!(e==0)))] m
 refine mM _ _ ?_;clear mM mL
 refine uQ [] [4] (by decide) ?_
 intro mL mM
 suffices key:mL [(4, .bool (((!(e==0))&&(decide (0<f)))&&(e==f)))] m by
  refine ⟨trivial,trivial,?_⟩
  show hQ _ _ _ _ _ [(17, .bool (!(e==0))),(16, .bool (!(e==0))),(1, .int .i64 f),(5, .int .i64 e),(6, .bool (!(e==0)))] _
  revert key
  cases aa:(e==0)
  ·
   replace aa:e≠0:=(ne_of_beq_false aa)
   intro key
   refine ⟨trivial,trivial,?_⟩
   refine ⟨trivial,?_⟩
   show hQ _ _ _ _ _ [(21, .bool (decide (0<f))),(20, .bool (decide (0<f))),(19, .bool (decide (0<f))),(18, .int .i64 f),(17, .bool true),(16, .bool true),(1, .int .i64 f),(5, .int .i64 e),(6, .bool true)] _
   revert key
   cases aj:(decide (0<f))
   ·
    replace aj:f≤0:=(Int.not_lt.1 (of_decide_eq_false aj))
    intro key
    refine rD rfl (rD rfl (rD rfl ?_))
    refine ⟨trivial,?_⟩
    exact key
   ·
    replace aj:0<f:=(of_decide_eq_true aj)
    intro key
    refine ⟨trivial,trivial,trivial,?_⟩
    refine ⟨trivial,?_⟩
    exact key
  ·
   replace aa:e=0:=(eq_of_beq aa)
   intro key
   refine rD rfl (rD rfl ?_)
   refine ⟨trivial,?_⟩
   refine rD rfl (rD rfl (rD rfl ?_))
   refine ⟨trivial,?_⟩
   exact key
 refine mM _ _ ?_;clear mM mL
 refine B3 ?_
 refine ⟨trivial,m,fun _ _ h=>h,?_⟩
 show K (.bool (((!(e==0))&&(decide (0<f)))&&(e==f))) m
 refine cL U (congrArg ab.bool ?_)
 rw [Bool.eq_iff_iff];simp;omega
end Go.Proofs
end
section
namespace Go.Proofs
open Go Go.bg Go.cz
def JY:h1:=(146,⟨.ptr,1,8,[.p]⟩)::tb
theorem SU:fO Tryz.prog JY=true:=by decide+kernel
noncomputable def SV (w st s5 xs cv bs:List Nat):gW:=⟨Tryz.prog,JY,115,w,st,s5,xs,cv,bs⟩
end Go.Proofs
end
