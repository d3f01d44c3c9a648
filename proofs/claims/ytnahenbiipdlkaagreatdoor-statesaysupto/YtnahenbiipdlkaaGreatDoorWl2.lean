/-
  Contracts of the library at this seat (laid by the kit's tools lay-shelf, lay-plain): strings.LastIndex, TrimSuffix, genSplit and what it calls.
-/
import Derived.Test.YtnahenbiipdlkaaGreatDoorPx7
import Derived.Test.YtnahenbiipdlkaaGreatDoorWzG
import Derived.Shelf.Strings.Search3
import Derived.Shelf.Strings.Count
import Derived.Shelf.Strings.LastIndexAll
import Derived.Shelf.Strings.Prefix
import Derived.Shelf.Strings.SplitCore
import Derived.Lib.SplitLaws
import Derived.Test.YtnahenbiipdlkaaGreatDoorProg
import Derived.Shelf.Strconv.AtoiAll
import Derived.Test.YtnahenbiipdlkaaGreatDoorSv4
import Derived.Test.YtnahenbiipdlkaaGreatDoorWyD
import Derived.Test.YtnahenbiipdlkaaGreatDoorLz4
section
namespace Go.Proofs
open Go Go.bh Go.bS
set_option maxRecDepth 100000
theorem Lh (f:UInt8→Bool):∀(l:ak),l.take (l.takeWhile f).length=l.takeWhile f
 |[]=>rfl
 |c::r=>by
  cases h:f c with
  |true=>simp only [List.takeWhile_cons,h,if_true,List.length_cons,List.take_succ_cons,Lh f r]
  |false=>simp [h]
theorem V8 (f:UInt8→Bool) (s:ak) {a:Int} (aq:0≤a):sub s a (eK f s a)=(s.drop a.toNat).takeWhile f:=by
 have e:(eK f s a- a).toNat=((s.drop a.toNat).takeWhile f).length:=by
  simp only [eK,runN];omega
 rw [sub,e,Lh]
theorem Li (f:UInt8→Bool):∀(l:ak),∀c∈l.takeWhile f,f c=true
 |[],c,h=>by cases h
 |x::r,c,h=>by
  cases ah:f x with
  |true=>
   simp only [List.takeWhile_cons,ah,if_true,List.mem_cons] at h
   rcases h with rfl|h
   · exact ah
   · exact Li f r c h
  |false=>simp [ah] at h
theorem V9 {s:ak} {a:Int} (aq:0≤a) (aH:a<s.length) (h:(gm s a).1=2):(gm s a).2.1≠[]∧(gm s a).2.1.length≤10∧∀c∈(gm s a).2.1,48≤c.toNat∧c.toNat≤57:=by
 unfold gm at h ⊢
 split at h
 · split at h<;>simp at h
 · rename_i I
   split at h
   · rename_i J
     split at h
     · simp at h
     · rename_i ai
       rw [if_neg I,if_pos J,if_neg ai]
       have e:=V8 fo s aq
       have ar:(eK fo s a- a)=(((s.drop a.toNat).takeWhile fo).length:Int):=by
        simp only [eK,runN];omega
       refine ⟨?_,?_,?_⟩
       · rw [e]
         have aY:=lQ aq aH
         rw [aY,List.takeWhile_cons,J];simp
       · rw [e];show (List.takeWhile fo (List.drop a.toNat s)).length≤10;omega
       · rw [e];intro c ag
         have:=yN.1 (Li fo _ c ag)
         omega
   · split at h
     · split at h<;>simp at h
     · split at h
       · simp at h
       · split at h<;>simp at h
theorem Bv (s:ak):∀(n:Nat) (a:Int) (out:List Tok),0≤a→sI out→sI (gX n s a out).1
 |0,a,out,_,h=>by rw [gX];exact h
 |n+1,a,out,aq,h=>by
  rw [gX]
  split
  · rename_i aH
    split
    · exact Bv s n _ _ (by omega) h
    · split
      · exact Bv s n _ _ (by have:=vV rq (s:=s) aq;omega) h
      · split
        · intro t ao;cases ao
        · rename_i ae
          have he:(gm s a).2.2.2=0:=by simpa using ae
          refine Bv s n _ _ (by have:=(Vb aq aH he).1;omega) fun t ao J=>?_
          rcases List.mem_append.1 ao with ao|ao
          · exact h t ao J
          · rw [List.mem_singleton.1 ao] at J ⊢
            exact V9 aq aH J
  · exact h
theorem Wa (s:ak):sI (eE s).1:=by
 unfold eE
 split
 · intro t ao;cases ao
 · exact Bv s _ _ _ (by omega) fun t ao=>by cases ao
end Go.Proofs
end
section
namespace Go.Proofs
open Go Go.bh Go.bS
set_option maxRecDepth 100000
mutual
def gf:aD→Int
 | .mk _ _ _ _ a _=>h6 a+1
def h6:List aD→Int
 |[]=>0
 |e::r=>gf e+h6 r
end
mutual
def hL:aD→Int
 | .mk _ _ _ _ a _=>kd a+1
def kd:List aD→Int
 |[]=>0
 |e::r=>max (hL e) (kd r)
end
theorem Lj (e:aD):gf e=h6 e.a+1:=by cases e with|mk k v s t a n=>simp only [gf,aD.a]
theorem Lk (e:aD):hL e=kd e.a+1:=by cases e with|mk k v s t a n=>simp only [hL,aD.a]
theorem Wb {l:List aD} {i:Int} (aq:0≤i) (ab:i<l.length):h6 (l.drop i.toNat)=gf (aa l i)+h6 (l.drop (i+1).toNat):=by rw [lQ aq ab,h6]
theorem Wc {l:List aD} {i:Int} (aq:0≤i) (ab:i<l.length):kd (l.drop i.toNat)=max (hL (aa l i)) (kd (l.drop (i+1).toNat)):=by rw [lQ aq ab,kd]
mutual
theorem yV:∀e:aD,1≤gf e∧gf e≤gM e∧1≤hL e∧hL e≤gf e
 | .mk k v s t a n=>by
   have h:=Bw a
   simp only [gf,hL,gM]
   omega
theorem Bw:∀l:List aD,0≤h6 l∧h6 l≤lV l∧0≤kd l∧kd l≤h6 l
 |[]=>by simp [h6,kd,lV]
 |e::r=>by
  have I:=yV e
  have J:=Bw r
  simp only [h6,kd,lV]
  omega
end
end Go.Proofs
end
section
namespace Go.Proofs
open Go Go.bh Go.bS
set_option maxRecDepth 100000
set_option maxHeartbeats 1000000 in
theorem Wd (k:Nat) (e:aD) (d gZ:Int) (p:Nat) (aQ:∀x:aD,gM x<k→∀d gZ:Int,0≤d→d≤100→0≤gZ→gZ≤60→∀(p:Nat) (m:ad),fx [p] m→∀(K:R→ad→Prop),(∀fw,fw=gZ- gf x∧hL x+d≤7∧gf x≤gZ→K (.bool true) (ad.aX m [(p, .cells [.int .i64 fw])]))→(∀fw,¬(hL x+d≤7∧gf x≤gZ)∧-1≤fw∧fw≤gZ→K (.bool false) (ad.aX m [(p, .cells [.int .i64 fw])]))→bn Tryz.prog 59 [e7 x, .int .i64 d, .ptr ⟨p,0,none⟩] (ad.aX m [(p, .cells [.int .i64 gZ])]) K) (aY:gM e<k+1) (We:0≤d) (cX:d≤100) (cI:0≤gZ) (kZ:gZ≤60) (m:ad) (gd:fx [p] m) (K:R→ad→Prop) (jW:∀fw,fw=gZ- gf e∧hL e+d≤7∧gf e≤gZ→K (.bool true) (ad.aX m [(p, .cells [.int .i64 fw])])) (jX:∀fw,¬(hL e+d≤7∧gf e≤gZ)∧-1≤fw∧fw≤gZ→K (.bool false) (ad.aX m [(p, .cells [.int .i64 fw])])):bn Tryz.prog 59 [e7 e, .int .i64 d, .ptr ⟨p,0,none⟩] (ad.aX m [(p, .cells [.int .i64 gZ])]) K:=by
 have h7:=yV e
 have cH:=Lj e
 have dO:=Lk e
 have lJ:=Bw e.a
 refine enter (c:=cP [] [0] [2] [] [] [p]) (vs:=[.aK (e7 e), .aK (.int .i64 d), .loc 0 0]) (L:=[.cells [aw gZ]]) (m:=m) false cc Tryz.mixed Tryz.func59 rfl (k:=3) (by show cJ [] _ _ _=true;decide+kernel) rfl (gd.jq rfl) ?_
 refine ⟨fun c6=>?_⟩
 have pY:e.v.s.length≤140737488355328:=(c6 0 3 (Nat.le_of_ble_eq_true rfl))
 have rk:e.v.l.length≤140737488355328:=gj (c6 0 4 (Nat.le_of_ble_eq_true rfl))
 have Wf:e.v.f.length≤140737488355328:=gj (c6 0 5 (Nat.le_of_ble_eq_true rfl))
 have Wg:e.s.length≤140737488355328:=(c6 0 6 (Nat.le_of_ble_eq_true rfl))
 have Wh:e.t.length≤140737488355328:=(c6 0 7 (Nat.le_of_ble_eq_true rfl))
 have Wi:e.a.length≤140737488355328:=gj (c6 0 8 (Nat.le_of_ble_eq_true rfl))
 have Wj:e.n.length≤140737488355328:=gj (c6 0 9 (Nat.le_of_ble_eq_true rfl))
 refine an (by omega) ?_
 refine aZ ?_
 refine cx [1,2,3] 21 ((decide (6<d))||(decide (gZ- 1<0))) ?_ ?_
 · repeat' first
    |exact ⟨⟨_,rfl,by grind [bM.val]⟩,rfl⟩
    |refine an (fun _=>?_) (fun _=>?_)
 refine an (fun I=>?_) (fun I=>?_)
 · replace I:(6<d)∨(gZ- 1<0):=((da I).imp (fun q=>(of_decide_eq_true q)) (fun q=>(of_decide_eq_true q)))
   refine rt rfl fun _=>?_
   show K (.bool false) (ad.aX m [(p, .cells [.int .i64 (gZ- 1)])])
   exact jX _ ⟨by omega,by omega,by omega⟩
 replace I:(d≤6)∧(0≤gZ- 1):=⟨(Int.not_lt.1 (of_decide_eq_false (bZ I))),(Int.not_lt.1 (of_decide_eq_false (c8 I)))⟩
 refine aZ ?_
 refine dq ?_
 refine ev (σ:=Int×Int) [] [1,2,23,24,25] 2 (fun ⟨i,f2⟩=>([(1,aw d),(2, .loc 0 0),(23,bj (e.a.map dv)),(24,aw (e.a.length:Int)),(25,aw i)],[.cells [aw f2], .cells [aw e.kind,aw e.v.kind,aw e.v.n,bf e.v.s,bj (e.v.l.map cm),bj (e.v.f.map bB),bf e.s,bf e.t,bj (e.a.map dv),bj (e.n.map cf)]],m)) (fun ⟨i,f2⟩=>0≤i∧i≤e.a.length∧0≤f2∧f2≤gZ∧gf e=gZ- f2+h6 (e.a.drop i.toNat)∧hL e≤max (7- d) (kd (e.a.drop i.toNat)+1)∧kd (e.a.drop i.toNat)≤kd e.a) (fun ⟨i,f2⟩=>e.a.length- i.toNat) (0,gZ- 1) ⟨rfl,rfl⟩ ?_ ?_
 · try dsimp only
   exact ⟨by omega,by omega,by omega,by omega,by show _=_+h6 e.a;omega,by show _≤max _ (kd e.a+1);omega,Int.le_refl _⟩
 rintro ⟨i,f2⟩ aM
 dsimp only at aM
 refine aZ ?_
 refine an (fun J=>?_) (fun J=>?_)
 · have s1:=Wb aM.1 J
   have s2:=Wc aM.1 J
   have fk:=yV (aa e.a i)
   have rb:=Bw (e.a.drop (i+1).toNat)
   refine aZ ?_
   refine e0 e7 hI (by omega) ?_
   refine an (by omega) ?_
   refine dK 115 [0] (σ:=(Int) ⊕ (Int)) (Sum.elim (fun h8=>h8=f2- gf (aa e.a i)∧hL (aa e.a i)+(d+1)≤7∧gf (aa e.a i)≤f2) (fun h8=>¬(hL (aa e.a i)+(d+1)≤7∧gf (aa e.a i)≤f2)∧-1≤h8∧h8≤f2)) (Sum.elim (fun h8=> .b (.lit true)) (fun h8=> .b (.lit false))) (Sum.elim (fun h8=>[.cells [aw h8]]) (fun h8=>[.cells [aw h8]])) rfl (fun x=>by rcases x with _|_<;>rfl) (fun bs az gd ao K U=>aQ (aa e.a i) (by have:=sH (ch (l:=e.a) (i:=i) aM.1 (by assumption));omega) (d+1) f2 (by omega) (by omega) (by omega) (by omega) (bs.getD 0 0) az gd K (fun f ba=>U (.inl f) ba) (fun f ba=>U (.inr f) ba)) ?_
   rintro (h8|h8) b5
   · try dsimp only [Sum.elim_inl,Sum.elim_inr] at b5
     dsimp only [Sum.elim_inl,Sum.elim_inr]
     refine an (by omega) ?_
     refine ⟨(i+1,h8),⟨rfl,rfl⟩,?_,?_⟩
     · try dsimp only
       (first|omega|(simp_all;done)|(simp_all;omega))
     try dsimp only
     omega
   try dsimp only [Sum.elim_inl,Sum.elim_inr] at b5
   dsimp only [Sum.elim_inl,Sum.elim_inr]
   refine rt rfl fun _=>?_
   show K (.bool false) (ad.aX m [(p, .cells [.int .i64 h8])])
   exact jX _ ⟨by omega,by omega,by omega⟩
 rw [List.drop_eq_nil_of_le (by omega)] at aM
 simp only [h6,kd] at aM
 refine rt rfl fun _=>?_
 show K (.bool true) (ad.aX m [(p, .cells [.int .i64 f2])])
 exact jW _ ⟨by omega,by omega,by omega⟩
end Go.Proofs
end
section
namespace Go.Proofs
open Go Go.bh Go.bS
set_option maxRecDepth 100000
theorem Ll:∀(k:Nat) (e:aD),gM e<k→∀d gZ:Int,0≤d→d≤100→0≤gZ→gZ≤60→∀(p:Nat) (m:ad),fx [p] m→∀(K:R→ad→Prop),(∀fw,fw=gZ- gf e∧hL e+d≤7∧gf e≤gZ→K (.bool true) (ad.aX m [(p, .cells [.int .i64 fw])]))→(∀fw,¬(hL e+d≤7∧gf e≤gZ)∧-1≤fw∧fw≤gZ→K (.bool false) (ad.aX m [(p, .cells [.int .i64 fw])]))→bn Tryz.prog 59 [e7 e, .int .i64 d, .ptr ⟨p,0,none⟩] (ad.aX m [(p, .cells [.int .i64 gZ])]) K
 |0,_,h=>absurd h (Nat.not_lt_zero _)
 |k+1,e,h=>fun d gZ aq I J ai p m gd K jW jX=>Wd k e d gZ p (fun x ah=>Ll k x ah) h aq I J ai m gd K jW jX
def sJ (l:List ak):Prop:=∀i:Int,0≤i→i<l.length→b1 (aa l i)=true∧(0<i→Op.bytesLess (aa l (i- 1)) (aa l i)=true)
structure Lm (e:aD) (many names:Int) (s t:Bool):Prop where
 h:(e.kind=1∧many=0∧names=0∧s=(e.s==[])∧t=(e.t==[]))∨(e.kind=2∧many=0∧names=0∧s=b1 e.s∧t=(e.t==[]))∨((e.kind=3∨e.kind=4)∧many=0∧names=0∧s=b1 e.s∧t=b1 e.t)∨
  ((e.kind=5∨e.kind=6)∧many=2∧names=0∧s=(e.s==[])∧t=(e.t==[]))∨(e.kind=7∧many=3∧names=0∧s=(e.s==[])∧t=(e.t==[]))∨(e.kind=8∧many=e.a.length∧names=0∧s=(e.s==[])∧t=(e.t==[]))∨
  (e.kind=9∧sJ e.n∧many=e.a.length∧names=e.a.length∧s=(e.s==[])∧t=(e.t==[]))∨(e.kind=10∧many=1∧names=0∧s=b1 e.s∧t=(e.t==[]))
def ke (e:aD):Prop:=
 (e.kind=1∧e.s=[]∧e.t=[]∧(e.v.kind≤3∧bF e.v=0)∧e.a=[]∧e.n=[])∨
 (e.v=cK∧((e.kind=2∧b1 e.s=true∧e.t=[]∧e.a=[]∧e.n=[])∨((e.kind=3∨e.kind=4)∧b1 e.s=true∧b1 e.t=true∧e.a=[]∧e.n=[])∨((e.kind=5∨e.kind=6)∧e.s=[]∧e.t=[]∧e.a.length=2∧e.n=[])∨
   (e.kind=7∧e.s=[]∧e.t=[]∧e.a.length=3∧e.n=[])∨(e.kind=8∧e.s=[]∧e.t=[]∧e.n=[])∨(e.kind=9∧e.s=[]∧e.t=[]∧e.a.length=e.n.length∧sJ e.n)∨(e.kind=10∧b1 e.s=true∧e.t=[]∧e.a.length=1∧e.n=[])))
theorem ke.Ln {e:aD} {many names:Int} {s t:Bool} (w:Lm e many names s t):ke e↔s=true∧t=true∧((e.kind=1∧e.v.kind≤3∧bF e.v=0)∨(e.kind≠1∧e.v=cK))∧(e.a.length:Int)=many∧(e.n.length:Int)=names:=by
 have ie:(e.a.length:Int)=0↔e.a=[]:=by rw [←List.length_eq_zero_iff];omega
 have iC:(e.n.length:Int)=0↔e.n=[]:=by rw [←List.length_eq_zero_iff];omega
 unfold ke
 rcases w.h with ⟨aj,rfl,rfl,rfl,rfl⟩|⟨aj,rfl,rfl,rfl,rfl⟩|⟨aj|aj,rfl,rfl,rfl,rfl⟩|⟨aj|aj,rfl,rfl,rfl,rfl⟩|⟨aj,rfl,rfl,rfl,rfl⟩|⟨aj,rfl,rfl,rfl,rfl⟩|⟨aj,aL,rfl,rfl,rfl,rfl⟩|⟨aj,rfl,rfl,rfl,rfl⟩<;>simp only [aj,ie,iC]<;>simp<;>grind
theorem ke.no {e:aD} (h:¬(1≤e.kind∧e.kind≤10)):¬ke e:=by
 unfold ke;omega
theorem ke.Wk {e:aD} (h:e.kind=9) (aL:¬sJ e.n):¬ke e:=by
 unfold ke;simp only [h];simp [aL]
mutual
def lx:aD→Prop
 | .mk k v s t a n=>ke (.mk k v s t a n)∧jy a
def jy:List aD→Prop
 |[]=>True
 |e::r=>lx e∧jy r
end
theorem wk (e:aD):lx e↔ke e∧jy e.a:=by cases e with|mk k v s t a n=>simp only [lx,aD.a]
theorem Lo {l:List aD} {i:Int} (aq:0≤i) (ab:i<l.length):jy (l.drop i.toNat)↔lx (aa l i)∧jy (l.drop (i+1).toNat):=by rw [lQ aq ab,jy]
open Classical in
noncomputable def kf (e:aD):Int:=if lx e then 0 else 3
open Classical in
noncomputable def h9 (e:aD):Int:=if 60<gf e∨6<hL e then 2 else kf e
theorem Wl (v:aR) (m:ad) (K:R→ad→Prop) (U:K (.bool (decide (v.kind≤3)&&(bF v==0))) m):bn Tryz.prog 78 [cG v] m K:=by
 refine enter (c:=cP [] [] [1] [] [] []) (vs:=[.aK (cG v)]) (L:=[]) (m:=m) false cc Tryz.mixed Tryz.func78 rfl (k:=1) (by show cJ [] _ _ _=true;decide+kernel) rfl (Good.nil m) ?_
 refine cx [] 2 ((decide (v.kind≤3))&&((bF v)==0)) ?_ ?_
 · repeat' first
    |exact ⟨⟨_,rfl,by grind [bM.val]⟩,rfl⟩
    |refine an (fun _=>?_) (fun _=>?_)
    |refine ct (fun _=>yG v) rfl ?_
 exact bt rfl fun _=>U
end Go.Proofs
end
section
namespace Go.Proofs
open Go Go.bh Go.bS
set_option maxRecDepth 100000
theorem yW {e:aD}:kf e=0↔lx e:=by unfold kf;split<;>simp [*]
theorem Lp {e:aD} (h:lx e):kf e=0:=yW.2 h
theorem Ft {e:aD} (h:¬lx e):kf e=3:=by unfold kf;rw [if_neg h]
theorem Wm {e:aD} (h:kf e≠0):kf e=3:=Ft fun ba=>h (yW.2 ba)
theorem Fu {e:aD} (h:¬ke e):kf e=3:=Ft fun ba=>h ((wk e).1 ba).1
theorem Wn {e:aD} {i:Int} (aq:0≤i) (ab:i<e.a.length) (aW:jy e.a↔jy (e.a.drop i.toNat)) (h:kf (aa e.a i)≠0):kf e=kf (aa e.a i):=by
 rw [Wm h]
 refine Ft fun ba=>h (yW.2 ?_)
 exact ((Lo aq ab).1 (aW.1 ((wk e).1 ba).2)).1
theorem Wo {e:aD} {i:Int} (aq:0≤i) (ab:i<e.a.length) (aW:jy e.a↔jy (e.a.drop i.toNat)) (h:kf (aa e.a i)=0):jy e.a↔jy (e.a.drop (i+1).toNat):=
 aW.trans ((Lo aq ab).trans ⟨fun h=>h.2,fun J=>⟨yW.1 h,J⟩⟩)
theorem Wp {e:aD} {i:Int} (ab:(e.a.length:Int)≤i) (aW:jy e.a↔jy (e.a.drop i.toNat)) (h:ke e):kf e=0:=by
 rw [List.drop_eq_nil_of_le (by omega)] at aW
 exact Lp ((wk e).2 ⟨h,aW.2 (by simp only [jy])⟩)
theorem Bx {e:aD} (h:lx e):ke e∧∀x∈e.a,lx x:=by
 refine ⟨((wk e).1 h).1,?_⟩
 have J:=((wk e).1 h).2
 generalize e.a=l at J
 induction l with
 |nil=>intro x ah;cases ah
 |cons a r aQ=>
  simp only [jy] at J
  intro x ah
  rcases List.mem_cons.1 ah with rfl|ah
  · exact J.1
  · exact aQ J.2 x ah
open Classical in
theorem Fv {e:aD} (h:h9 e=0):lx e∧gf e≤60∧hL e≤6:=by
 unfold h9 at h
 split at h
 · cases h
 · rename_i ba
   exact ⟨yW.1 h,by omega,by omega⟩
theorem Wq (e:aD):0≤h9 e:=by
 unfold h9 kf;split
 · decide
 · split<;>decide
mutual
def iZ:aD→Nat
 | .mk _ v _ _ a n=>bq v+n.length+kg a+1
def kg:List aD→Nat
 |[]=>0
 |e::r=>iZ e+kg r
end
theorem Wr {l:List ak} {i:Int} (h:∀j:Int,0≤j→j<i→b1 (aa l j)=true∧(0<j→Op.bytesLess (aa l (j- 1)) (aa l j)=true)) (I:b1 (aa l i)=true) (J:0<i→Op.bytesLess (aa l (i- 1)) (aa l i)=true):
 ∀j:Int,0≤j→j<i+1→b1 (aa l j)=true∧(0<j→Op.bytesLess (aa l (j- 1)) (aa l j)=true):=fun j aq ay=>by
 rcases Int.lt_or_le j i with ba|ba
 · exact h j aq ba
 · obtain rfl:j=i:=by omega
   exact ⟨I,J⟩
set_option maxHeartbeats 4000000 in
theorem Ws (k:Nat) (e:aD) (aQ:∀x:aD,gM x<k→∀(m:ad) (K:R→ad→Prop),K (.err 115 (kf x)) m→bn Tryz.prog 60 [e7 x] m K) (aY:gM e<k+1) (m:ad) (K:R→ad→Prop) (U:K (.err 115 (kf e)) m):bn Tryz.prog 60 [e7 e] m K:=by
 refine enter (c:=cP [] [0,23] [23,28,29] [] [] []) (vs:=[.aK (e7 e)]) (L:=[]) (m:=m) true cc Tryz.mixed Tryz.func60 rfl (k:=1) (by show cJ [] _ _ _=true;decide+kernel) rfl (Good.nil m) ?_
 refine ⟨fun c6=>?_⟩
 have pY:e.v.s.length≤140737488355328:=(c6 0 3 (Nat.le_of_ble_eq_true rfl))
 have rk:e.v.l.length≤140737488355328:=gj (c6 0 4 (Nat.le_of_ble_eq_true rfl))
 have Wf:e.v.f.length≤140737488355328:=gj (c6 0 5 (Nat.le_of_ble_eq_true rfl))
 have Wg:e.s.length≤140737488355328:=(c6 0 6 (Nat.le_of_ble_eq_true rfl))
 have Wh:e.t.length≤140737488355328:=(c6 0 7 (Nat.le_of_ble_eq_true rfl))
 have Wi:e.a.length≤140737488355328:=gj (c6 0 8 (Nat.le_of_ble_eq_true rfl))
 have Wj:e.n.length≤140737488355328:=gj (c6 0 9 (Nat.le_of_ble_eq_true rfl))
 refine AF (σ:=Int×Int×Bool×Bool) [(3,0),(4,0),(5,0),(6,0)] [1,3,4,5,6] 1 (fun ⟨js,dd,k3,tb⟩=>([(1, .loc 0 0),(3,aw js),(4,aw dd),(5,e6 k3),(6,e6 tb)],[.cells [aw e.kind,aw e.v.kind,aw e.v.n,bf e.v.s,bj (e.v.l.map cm),bj (e.v.f.map bB),bf e.s,bf e.t,bj (e.a.map dv),bj (e.n.map cf)]],m)) (fun ⟨js,dd,k3,tb⟩=>Lm e js dd k3 tb) ?_ ?_
 · rintro ⟨js,dd,k3,tb⟩ o8
   refine cx [1,3,4,5,6] 9 (((e.kind==1)&&(decide (e.v.kind≤3)&&(bF e.v==0)))||((!(e.kind==1))&&(hd e.v cK))) ?_ ?_
   · repeat' first
      |exact ⟨⟨_,rfl,by grind [bM.val]⟩,rfl⟩
      |refine an (fun _=>?_) (fun _=>?_)
      |refine ct (fun _=>Wl e.v) rfl ?_
      |refine ct (fun _=>Uj e.v cK) rfl ?_
   refine aZ ?_
   refine cx [1] 130 (((((!k3)||(!tb))||(!(((e.kind==1)&&(decide (e.v.kind≤3)&&(bF e.v==0)))||((!(e.kind==1))&&(hd e.v cK)))))||(!((e.a.length:Int)==js)))||(!((e.n.length:Int)==dd))) ?_ ?_
   · repeat' first
      |exact ⟨⟨_,rfl,by grind [bM.val]⟩,rfl⟩
      |refine an (fun _=>?_) (fun _=>?_)
      |refine dq ?_
   refine an (fun I=>?_) (fun I=>?_)
   · replace I:((((k3=false)∨(tb=false))∨(((e.kind≠1)∨((decide (e.v.kind≤3)&&(bF e.v==0))=false))∧((e.kind=1)∨(hd e.v cK=false))))∨((e.a.length:Int)≠js))∨((e.n.length:Int)≠dd):=((da I).imp (fun q=>((da q).imp (fun q=>((da q).imp (fun q=>((da q).imp (fun q=>(dD q)) (fun q=>(dD q)))) (fun q=>⟨((fZ (bZ (dD q))).imp (fun q=>(ne_of_beq_false q)) (fun q=>q)),((fZ (c8 (dD q))).imp (fun q=>(eq_of_beq (dC q))) (fun q=>q))⟩))) (fun q=>(ne_of_beq_false (dD q))))) (fun q=>(ne_of_beq_false (dD q))))
     refine bt rfl fun _=>?_
     show K (.err 115 3) m
     rw [Fu fun ba=>by have:=(ke.Ln o8).1 ba;have:=@vQ e.v cK;grind] at U;exact U
   replace I:((((k3=true)∧(tb=true))∧(((e.kind=1)∧((decide (e.v.kind≤3)&&(bF e.v==0))=true))∨((e.kind≠1)∧(hd e.v cK=true))))∧((e.a.length:Int)=js))∧((e.n.length:Int)=dd):=⟨⟨⟨⟨(dC (bZ (bZ (bZ (bZ I))))),(dC (c8 (bZ (bZ (bZ I)))))⟩,((da (dC (c8 (bZ (bZ I))))).imp (fun q=>⟨(eq_of_beq (e4 q)),(fY q)⟩) (fun q=>⟨(ne_of_beq_false (dD (e4 q))),(fY q)⟩))⟩,(eq_of_beq (dC (c8 (bZ I))))⟩,(eq_of_beq (dC (c8 I)))⟩
   have hT:ke e:=(ke.Ln o8).2 (by have:=@vQ e.v cK;grind)
   refine aZ ?_
   refine dq ?_
   refine ev (σ:=Int) [] [133,134,135] 1 (fun i=>([(133,bj (e.a.map dv)),(134,aw (e.a.length:Int)),(135,aw i)],[.cells [aw e.kind,aw e.v.kind,aw e.v.n,bf e.v.s,bj (e.v.l.map cm),bj (e.v.f.map bB),bf e.s,bf e.t,bj (e.a.map dv),bj (e.n.map cf)]],m)) (fun i=>0≤i∧i≤e.a.length∧(jy e.a↔jy (e.a.drop i.toNat))) (fun i=>e.a.length- i.toNat) (0) ⟨rfl,rfl⟩ ?_ ?_
   · try dsimp only
     exact ⟨by omega,by omega,Iff.rfl⟩
   rintro i aM
   refine aZ ?_
   refine an (fun J=>?_) (fun J=>?_)
   · refine aZ ?_
     refine e0 e7 hI (by omega) ?_
     refine ct (fun _=>aQ (aa e.a i) (by have:=sH (ch (l:=e.a) (i:=i) aM.1 (by assumption));omega)) rfl ?_
     refine an (fun ai=>?_) (fun ai=>?_)
     · refine an (by omega) ?_
       refine ⟨(i+1),⟨rfl,rfl⟩,?_,?_⟩
       · try dsimp only
         exact ⟨by omega,by omega,Wo aM.1 (by assumption) aM.2.2 (by omega)⟩
       try dsimp only
       omega
     refine bt rfl fun _=>?_
     show K (.err 115 (kf (aa e.a i))) m
     rw [Wn aM.1 (by assumption) aM.2.2 (by assumption)] at U;exact U
   refine bt rfl fun _=>?_
   show K (.err 115 0) m
   rw [Wp (by omega) aM.2.2 hT] at U;exact U
 refine an (fun aC=>?_) (fun aC=>?_)
 · refine ⟨(0,0,(e.s==([])),(e.t==([]))),⟨rfl,rfl⟩,⟨.inl ⟨by assumption,rfl,rfl,rfl,rfl⟩⟩⟩
 refine an (fun aN=>?_) (fun aN=>?_)
 · refine ct (fun _=>sA e.s (by first|omega|exact ug)) rfl ?_
   refine ⟨(0,0,(b1 e.s),(e.t==([]))),⟨rfl,rfl⟩,⟨.inr (.inl ⟨by assumption,rfl,rfl,rfl,rfl⟩)⟩⟩
 refine aZ ?_
 refine an (fun bE=>?_) (fun bE=>?_)
 · refine an (fun dk=>?_) (fun dk=>?_)
   · refine hx (fun _=>sA e.s (by first|omega|exact ug)) ?_
     refine hx (fun _=>sA e.t (by first|omega|exact ug)) ?_
     refine ⟨(0,0,(b1 e.s),(b1 e.t)),⟨rfl,rfl⟩,⟨.inr (.inr (.inl ⟨.inl (by assumption),rfl,rfl,rfl,rfl⟩))⟩⟩
   exact absurd bE dk
 refine an (fun cW=>?_) (fun cW=>?_)
 · refine hx (fun _=>sA e.s (by first|omega|exact ug)) ?_
   refine hx (fun _=>sA e.t (by first|omega|exact ug)) ?_
   refine ⟨(0,0,(b1 e.s),(b1 e.t)),⟨rfl,rfl⟩,⟨.inr (.inr (.inl ⟨.inr (by assumption),rfl,rfl,rfl,rfl⟩))⟩⟩
 refine aZ ?_
 refine an (fun dB=>?_) (fun dB=>?_)
 · refine an (fun dV=>?_) (fun dV=>?_)
   · refine ⟨(2,0,(e.s==([])),(e.t==([]))),⟨rfl,rfl⟩,⟨.inr (.inr (.inr (.inl ⟨.inl (by assumption),rfl,rfl,rfl,rfl⟩)))⟩⟩
   exact absurd dB dV
 refine an (fun fj=>?_) (fun fj=>?_)
 · refine ⟨(2,0,(e.s==([])),(e.t==([]))),⟨rfl,rfl⟩,⟨.inr (.inr (.inr (.inl ⟨.inr (by assumption),rfl,rfl,rfl,rfl⟩)))⟩⟩
 refine an (fun rm=>?_) (fun rm=>?_)
 · refine ⟨(3,0,(e.s==([])),(e.t==([]))),⟨rfl,rfl⟩,⟨.inr (.inr (.inr (.inr (.inl ⟨by assumption,rfl,rfl,rfl,rfl⟩))))⟩⟩
 refine an (fun Wt=>?_) (fun Wt=>?_)
 · refine dq ?_
   refine ⟨((e.a.length:Int),0,(e.s==([])),(e.t==([]))),⟨rfl,rfl⟩,⟨.inr (.inr (.inr (.inr (.inr (.inl ⟨by assumption,rfl,rfl,rfl,rfl⟩)))))⟩⟩
 refine an (fun Wu=>?_) (fun Wu=>?_)
 · refine dq ?_
   refine dq ?_
   refine dq ?_
   refine ev (σ:=Int) [] [1,3,4,5,6,57,58,59] 1 (fun i=>([(1, .loc 0 0),(3,aw (e.a.length:Int)),(4,aw (e.a.length:Int)),(5,e6 (e.s==([]))),(6,e6 (e.t==([]))),(57,bj (e.n.map cf)),(58,aw (e.n.length:Int)),(59,aw i)],[.cells [aw e.kind,aw e.v.kind,aw e.v.n,bf e.v.s,bj (e.v.l.map cm),bj (e.v.f.map bB),bf e.s,bf e.t,bj (e.a.map dv),bj (e.n.map cf)]],m)) (fun i=>0≤i∧i≤e.n.length∧∀j:Int,0≤j→j<i→b1 (aa e.n j)=true∧(0<j→Op.bytesLess (aa e.n (j- 1)) (aa e.n j)=true)) (fun i=>e.n.length- i.toNat) (0) ⟨rfl,rfl⟩ ?_ ?_
   · try dsimp only
     exact ⟨by omega,by omega,fun j aq ay=>by omega⟩
   rintro i aM
   refine aZ ?_
   refine an (fun Wv=>?_) (fun Wv=>?_)
   · refine aZ ?_
     refine fP (by omega) ?_
     refine ⟨fun Ww=>?_⟩
     have ug:(aa e.n i).length≤140737488355328:=HV (f:=cf) (Ww 57).2 (ch aM.1 (by assumption)) 0 (Nat.succ_pos _)
     refine cx [1,3,4,5,6,57,58,59] 80 ((!(b1 (aa e.n i)))||((decide (0<i))&&(!(Op.bytesLess (aa e.n (i- 1)) (aa e.n i))))) ?_ ?_
     · repeat' first
        |exact ⟨⟨_,rfl,by grind [bM.val]⟩,rfl⟩
        |refine an (fun _=>?_) (fun _=>?_)
        |refine ct (fun _=>sA (aa e.n i) (by first|omega|exact ug)) rfl ?_
        |refine an (by omega) ?_
        |refine fP (by omega) ?_
     refine an (fun wm=>?_) (fun wm=>?_)
     · replace wm:(b1 (aa e.n i)=false)∨((0<i)∧(Op.bytesLess (aa e.n (i- 1)) (aa e.n i)=false)):=((da wm).imp (fun q=>(dD q)) (fun q=>⟨(of_decide_eq_true (e4 q)),(dD (fY q))⟩))
       refine bt rfl fun _=>?_
       show K (.err 115 3) m
       rw [Fu (ke.Wk (by assumption) fun ba=>by have:=ba i aM.1 (by assumption);grind)] at U;exact U
     replace wm:(b1 (aa e.n i)=true)∧((i≤0)∨(Op.bytesLess (aa e.n (i- 1)) (aa e.n i)=true)):=⟨(dC (bZ wm)),((fZ (c8 wm)).imp (fun q=>(Int.not_lt.1 (of_decide_eq_false q))) (fun q=>(dC q)))⟩
     refine an (by omega) ?_
     refine ⟨(i+1),⟨rfl,rfl⟩,?_,?_⟩
     · try dsimp only
       exact ⟨by omega,by omega,Wr aM.2.2 (by grind) (by grind)⟩
     try dsimp only
     omega
   refine ⟨((e.a.length:Int),(e.a.length:Int),(e.s==([])),(e.t==([]))),⟨rfl,rfl⟩,⟨.inr (.inr (.inr (.inr (.inr (.inr (.inl ⟨by assumption,fun j aq ay=>aM.2.2 j aq (by omega),rfl,rfl,rfl,rfl⟩))))))⟩⟩
 refine an (fun Wx=>?_) (fun Wx=>?_)
 · refine ct (fun _=>sA e.s (by first|omega|exact ug)) rfl ?_
   refine ⟨(1,0,(b1 e.s),(e.t==([]))),⟨rfl,rfl⟩,⟨.inr (.inr (.inr (.inr (.inr (.inr (.inr ⟨by assumption,rfl,rfl,rfl,rfl⟩))))))⟩⟩
 refine bt rfl fun _=>?_
 show K (.err 115 3) m
 rw [Fu (ke.no (by omega))] at U;exact U
theorem Lq:∀(k:Nat) (e:aD),gM e<k→∀(m:ad) (K:R→ad→Prop),K (.err 115 (kf e)) m→bn Tryz.prog 60 [e7 e] m K
 |0,_,h=>absurd h (Nat.not_lt_zero _)
 |k+1,e,h=>fun m K U=>Ws k e (fun x ah=>Lq k x ah) h m K U
theorem Wy {e:aD} (h:¬(hL e+1≤7∧gf e≤60)):h9 e=2:=by unfold h9;rw [if_pos (by omega)]
theorem Wz {e:aD} (h:hL e+1≤7∧gf e≤60):h9 e=kf e:=by unfold h9;rw [if_neg (by omega)]
set_option maxHeartbeats 1000000 in
theorem Lr (e:aD) (m:ad) (K:R→ad→Prop) (U:K (.err 115 (h9 e)) m):bn Tryz.prog 14 [e7 e] m K:=by
 refine enter (c:=cP [] [] [] [] [] []) (vs:=[.aK (e7 e)]) (L:=[]) (m:=m) true cc Tryz.mixed Tryz.func14 rfl (k:=1) (by show cJ [] _ _ _=true;decide+kernel) rfl (Good.nil m) ?_
 refine aZ ?_
 refine dK 115 [1] (σ:=(Int) ⊕ (Int)) (Sum.elim (fun h8=>h8=60- gf e∧hL e+1≤7∧gf e≤60) (fun h8=>¬(hL e+1≤7∧gf e≤60)∧-1≤h8∧h8≤60)) (Sum.elim (fun h8=> .b (.lit true)) (fun h8=> .b (.lit false))) (Sum.elim (fun h8=>[.cells [aw h8]]) (fun h8=>[.cells [aw h8]])) rfl (fun x=>by rcases x with _|_<;>rfl) (fun bs az gd ao K U=>Ll (gM e+1) e (Nat.lt_succ_self _) 1 60 (by omega) (by omega) (by omega) (by omega) (bs.getD 1 0) az gd K (fun f ba=>U (.inl f) ba) (fun f ba=>U (.inr f) ba)) ?_
 rintro (h8|h8) b5
 · try dsimp only [Sum.elim_inl,Sum.elim_inr] at b5
   dsimp only [Sum.elim_inl,Sum.elim_inr]
   refine ct (fun _=>Lq (gM e+1) e (Nat.lt_succ_self _)) rfl ?_
   refine bt rfl fun _=>?_
   show K (.err 115 (kf e)) m
   rw [Wz ⟨b5.2.1,b5.2.2⟩] at U;exact U
 try dsimp only [Sum.elim_inl,Sum.elim_inr] at b5
 dsimp only [Sum.elim_inl,Sum.elim_inr]
 refine bt rfl fun _=>?_
 show K (.err 115 2) m
 rw [Wy b5.1] at U;exact U
end Go.Proofs
end
section
namespace Go.Proofs
open Go Go.bh Go.bS
set_option maxRecDepth 100000
theorem Ls:∀(k:Nat) (e:aD),gM e<k→gf e=gM e
 |0,_,h=>absurd h (Nat.not_lt_zero _)
 |k+1,e,h=>by
  have ar:∀l:List aD,(∀x∈l,gf x=gM x)→h6 l=lV l:=fun l=>by
   induction l with
   |nil=>intro _;simp [h6,lV]
   |cons a r aQ=>
    intro ba
    simp only [h6,lV]
    rw [ba a (List.mem_cons_self ..),aQ fun x ah=>ba x (List.mem_cons_of_mem _ ah)];omega
  rw [Lj,Fj,ar e.a fun x ah=>Ls k x (by have:=sH ah;omega)];omega
theorem Fw {e:aD} (h:h9 e=0):gM e≤60:=by
 have:=(Fv h).2.1
 have:=Ls _ e (Nat.lt_succ_self _)
 omega
def By (k:Int):ak:=(cn (dJ (dJ ([]:List (Int×ak)) 5 [32,43,32]) 6 [32,61,61,32]) k).getD []
theorem WA:By 5=[32,43,32]:=by decide+kernel
theorem WB:By 6=[32,61,61,32]:=by decide+kernel
def hA:Nat→aD→ak
 |0,_=>[]
 |k+1,e=>
  if e.kind=1 then eJ e.v
  else if e.kind=2 then [105,110,46]++e.s
  else if e.kind=3 then [114,101,115,46]++e.s++[46]++e.t
  else if e.kind=4 then [115,116,97,99,107,46]++e.s++[46]++e.t
  else if e.kind=5∨e.kind=6 then [40]++hA k (aa e.a 0)++By e.kind++hA k (aa e.a 1)++[41]
  else if e.kind=7 then [40]++hA k (aa e.a 0)++[32,63,32]++hA k (aa e.a 1)++[32,58,32]++hA k (aa e.a 2)++[41]
  else if e.kind=8 then [91]++dG (hA k) e.a true++[93]
  else if e.kind=9 then [123]++dG (fun p:ak×aD=>p.1++[58,32]++hA k p.2) (e.n.zip e.a) true++[125]
  else if e.kind=10 then [103,101,116,32]++hA k (aa e.a 0)++[32]++e.s
  else []
theorem qy (k:Nat) (e:aD):hA (k+1) e=
 if e.kind=1 then eJ e.v
 else if e.kind=2 then [105,110,46]++e.s
 else if e.kind=3 then [114,101,115,46]++e.s++[46]++e.t
 else if e.kind=4 then [115,116,97,99,107,46]++e.s++[46]++e.t
 else if e.kind=5∨e.kind=6 then [40]++hA k (aa e.a 0)++By e.kind++hA k (aa e.a 1)++[41]
 else if e.kind=7 then [40]++hA k (aa e.a 0)++[32,63,32]++hA k (aa e.a 1)++[32,58,32]++hA k (aa e.a 2)++[41]
 else if e.kind=8 then [91]++dG (hA k) e.a true++[93]
 else if e.kind=9 then [123]++dG (fun p:ak×aD=>p.1++[58,32]++hA k p.2) (e.n.zip e.a) true++[125]
 else if e.kind=10 then [103,101,116,32]++hA k (aa e.a 0)++[32]++e.s
 else []:=by rw [hA]
attribute [irreducible] hA
theorem pb {s:ak} (h:b1 s=true):s.length≤12:=by
 unfold b1 at h
 simp only [Bool.and_eq_true,decide_eq_true_eq] at h
 omega
theorem Fx {α:Type} [Inhabited α] {l:List α} {i:Int} {x:α} (aq:0≤i) (h:l[i.toNat]?=some x):aa l i=x:=by
 simp [aa,List.getD_eq_getElem?_getD,h]
def ry (e:aD):ak:=hA (gM e+1) e
theorem Lt (v:aR) (h:bF v=0) (m:ad) (K:R→ad→Prop) (aJ:cY m) (U:K (.tuple [.str (eJ v), .err 115 0]) m):bn Tryz.prog 81 [cG v] m K:=
 UJ v m K aJ (by rw [if_pos h,h];exact U)
end Go.Proofs
end
section
namespace Go.Proofs
open Go Go.bh Go.bS
set_option maxRecDepth 100000
structure e2 {α:Type} (w:α→Nat) (p:db α) (a:Int):Prop where
 h:p.f=0→4*a+(w p.x:Int)≤4*p.a
 n:0≤p.f
section
variable {α β:Type} {u:α→Nat} {w:β→Nat} {a b:Int}
theorem e2.no [Inhabited α] {f s:Int} (h:0<f):e2 u (.bad f s:db α) a:=⟨fun e=>absurd (show f=0 from e) (by omega),show 0≤f by omega⟩
theorem e2.yes {x:α} (h:4*a+(u x:Int)≤4*b):e2 u (.ok x b) a:=⟨fun _=>h,Int.le_refl _⟩
theorem e2.bind [Inhabited β] {p:db α} {g:α→Int→db β} (h:e2 u p b) (J:∀x dt,4*b+(u x:Int)≤4*dt→e2 w (g x dt) a):e2 w (p.bind g) a:=by
 rw [db.bind]
 split
 · exact J _ _ (h.h (by assumption))
 · rename_i aA;exact e2.no (by have:=h.n;omega)
end
theorem nO (l:List Tok) (n k:Int) (s:ak) (a:Int):e2 (fun _=>4) (eL l n k s a) a:=by
 rw [eL];split
 · exact e2.yes (by simp;omega)
 · exact e2.no (by decide)
theorem Lu (l:List Tok) (n a:Int):e2 (fun _=>4) (rr l n a) a:=by
 rw [rr]
 refine (nO ..).bind fun _ dt I=>(nO ..).bind fun _ a2 J=>(nO ..).bind fun _ a3 ai=>(nO ..).bind fun _ a4 aC=>e2.yes ?_
 omega
theorem Lv (x y:List aD):kg (x++y)=kg x+kg y:=by
 induction x with
 |nil=>simp [kg]
 |cons a r aQ=>simp only [List.cons_append,kg,aQ];omega
theorem rz:bq cK=1:=by simp [cK,bq,k4,kD]
theorem qz (k n:Int) (s:ak):iZ (hJ (.mk k n s [] []))=2:=by simp [hJ,iZ,kg,bq,k4,kD]
section
variable {f:Int→db aD} (aW:∀a,e2 iZ (f a) a) (l:List Tok) (n:Int)
include aW
theorem WC (a c:Int) (ag:c+1≤a):e2 iZ (pZ f l n a) c:=by
 rw [pZ]
 refine (aW a).bind fun x dt I=>?_
 split
 · refine (aW _).bind fun y a2 J=>(nO ..).bind fun _ a3 ai=>e2.yes ?_
   simp only [iZ,kg,rz,List.length_nil] at ai ⊢;omega
 split
 · refine (aW _).bind fun y a2 J=>(nO ..).bind fun _ a3 ai=>e2.yes ?_
   simp only [iZ,kg,rz,List.length_nil] at ai ⊢;omega
 split
 · refine (aW _).bind fun y a2 J=>(nO ..).bind fun _ a3 ai=>(aW _).bind fun z a4 aC=>(nO ..).bind fun _ a5 aN=>e2.yes ?_
   simp only [iZ,kg,rz,List.length_nil] at ai aN ⊢;omega
 · exact e2.no (by decide)
omit aW in
theorem Lw {xs:List aD} {a c:Int} {g:Int→db aD} (a8:∀b,a≤b→e2 iZ (g b) c):e2 iZ (nH l n xs a g) c:=by
 rw [nH];split
 · exact a8 _ (Int.le_refl _)
 · exact (nO ..).bind fun _ dt I=>a8 _ (by omega)
theorem Lx:∀(k:Nat) (a:Int) (xs:List aD) (c:Int),4*c+(kg xs:Int)+2≤4*a→e2 iZ (lW f l n k a xs) c
 |0,_,_,_,_=>e2.no (by decide)
 |k+1,a,xs,c,ag=>by
  rw [lW];split
  · refine e2.yes ?_
    simp only [iZ,rz,List.length_nil];omega
  · refine Lw l n fun b ae=>(aW _).bind fun x dt I=>Lx k _ _ _ ?_
    rw [Lv];simp only [kg];omega
theorem Ly:∀(k:Nat) (a:Int) (bV:List ak) (xs:List aD) (c:Int),4*c+(kg xs:Int)+(bV.length:Int)+2≤4*a→e2 iZ (kJ f l n k a bV xs) c
 |0,_,_,_,_,_=>e2.no (by decide)
 |k+1,a,bV,xs,c,ag=>by
  rw [kJ];split
  · refine e2.yes ?_
    simp only [iZ,rz];omega
  · refine Lw l n fun b ae=>(nO ..).bind fun _ dt I=>?_
    split
    · exact e2.no (by decide)
    · refine (nO ..).bind fun _ a2 J=>(aW _).bind fun x a3 ai=>Ly k _ _ _ _ ?_
      rw [Lv];simp only [kg,List.length_append,List.length_cons,List.length_nil];omega
theorem WD (a:Int):e2 iZ (j9 f l n a) a:=by
 rw [j9]
 split
 · exact e2.yes (by first|(rw [qz];omega)|(have:=qz 0 0 [];simp only [cK];omega))
 split
 · exact e2.yes (by first|(rw [qz];omega)|(have:=qz 0 0 [];simp only [cK];omega))
 split
 · exact e2.yes (by first|(rw [qz];omega)|(have:=qz 0 0 [];simp only [cK];omega))
 split
 · exact (nO ..).bind fun _ dt I=>(nO ..).bind fun _ a2 J=>e2.yes (by simp only [iZ,kg,rz,List.length_nil];omega)
 split
 · exact (Lu ..).bind fun _ dt I=>e2.yes (by simp only [iZ,kg,rz,List.length_nil];omega)
 split
 · exact (Lu ..).bind fun _ dt I=>e2.yes (by simp only [iZ,kg,rz,List.length_nil];omega)
 split
 · exact (aW _).bind fun _ dt I=>(nO ..).bind fun _ a2 J=>e2.yes (by simp only [iZ,kg,rz,List.length_nil];omega)
 · exact e2.no (by decide)
end
theorem Lz (l:List Tok) (n eR a:Int):e2 iZ (ou l n eR a) a:=by
 rw [ou]
 split
 · split
   · exact e2.no (by decide)
   · exact e2.yes (by first|(rw [qz];omega)|(have:=qz 0 0 [];simp only [cK];omega))
 · exact e2.no (by decide)
theorem e2.from {p:db aD} {a b:Int} (h:e2 iZ p a) (ae:b≤a):e2 iZ p b:=⟨fun z=>by have:=h.h z;omega,h.n⟩
theorem LA (l:List Tok) (n:Int):∀(k:Nat) (a:Int),e2 iZ (cQ l n k a) a
 |0,_=>e2.no (by decide)
 |k+1,a=>by
  have aQ:=LA l n k
  rw [cQ]
  split
  · exact WC aQ l n _ _ (Int.le_refl _)
  split
  · exact Lx aQ l n _ _ _ _ (by simp [kg];omega)
  split
  · exact Ly aQ l n _ _ _ _ _ (by simp [kg];omega)
  split
  · exact (Lz ..).from (by omega)
  split
  · exact Lz ..
  split
  · exact e2.yes (by first|(rw [qz];omega)|(have:=qz 0 0 [];simp only [cK];omega))
  · exact WD aQ l n a
noncomputable def k9 (l:List Tok) (n a:Int):db aD:=(cQ l n 6 a).bind fun x cw=>if h9 x=0 then .ok x cw else .bad (h9 x) (fp l n a)
noncomputable def eA (s:ak):aD×Int×Int:=
 if (eE s).2.2=0 then (if (k9 (eE s).1 s.length 0).f=0 then (if (k9 (eE s).1 s.length 0).a<(eE s).1.length then (hf,fp (eE s).1 s.length (k9 (eE s).1 s.length 0).a,5) else ((k9 (eE s).1 s.length 0).x,0,0)) else (hf,(k9 (eE s).1 s.length 0).p,(k9 (eE s).1 s.length 0).f)) else (hf,(eE s).2.1,(eE s).2.2)
section
variable {l:List Tok} {n a e q dt ax cX:Int} {x:aD}
theorem bY.sz (o:bY l (cQ l n 6 a) x a e q dt ax cX) (he:e=0) (aA:ax=0) (ar:l.length≤5000) (aq:0≤a):iZ x≤1000000000:=by
 have h:=o.ok he
 obtain ⟨rfl,rfl⟩:=h.y aA
 have:=(LA l n 6 a).h (h.f▸aA)
 have:=o.ab
 omega
theorem bY.WE (o:bY l (cQ l n 6 a) x a e q dt ax cX) (h:ax=0→h9 x=0):bY l (k9 l n a) x a e q dt ax cX:=by
 refine ⟨fun he=>?_,o.st,o.bD,o.ab,o.dd,o.gt⟩
 have I:=o.ok he
 by_cases aA:ax=0
 · obtain ⟨rfl,rfl⟩:=I.y aA
   rw [k9,db.bind,if_pos (by rw [←I.f];exact aA),if_pos (h aA)]
   exact ⟨aA,fun _=>⟨rfl,rfl⟩,fun h=>absurd aA h⟩
 · rw [k9,db.bind,if_neg (by rw [←I.f];exact aA)]
   exact ⟨I.f,fun h=>absurd h aA,fun _=>I.z aA⟩
theorem bY.WG (o:bY l (cQ l n 6 a) x a e q dt ax cX) (he:e=0) (aA:ax=0) (h:h9 x≠0):bY l (k9 l n a) x a e q dt (h9 x) (fp l n a):=by
 refine ⟨fun he=>?_,fun h=>absurd he h,o.bD,o.ab,Wq x,fun ba=>absurd ba h⟩
 have I:=o.ok he
 obtain ⟨rfl,rfl⟩:=I.y aA
 rw [k9,db.bind,if_pos (by rw [←I.f];exact aA),if_neg h]
 exact ⟨rfl,fun ba=>absurd ba h,fun _=>rfl⟩
end
theorem Fy {s:ak} {l:List Tok} {x:aD} {dt ax cX:Int} (iP:(eE s).1=l) (ao:(eE s).2.2=0) (o:bY l (k9 l s.length 0) x 0 0 0 dt ax cX):
 eA s=if ax=0 then (if dt<l.length then (hf,fp l s.length dt,5) else (x,0,0)) else (hf,cX,ax):=by
 subst iP
 have h:=o.ok rfl
 rw [eA,if_pos ao,←h.f]
 split
 · rename_i aA
   obtain ⟨rfl,rfl⟩:=h.y aA
   rfl
 · rw [←h.z (by assumption)]
set_option maxHeartbeats 2000000 in
theorem WH (l:List Tok) (n a e q:Int) (k:Nat) (r:Nat) (aQ:∀a e q d:Int,d=7- (k:Int)→0≤a→a≤l.length→0≤e→∀(r:Nat) (m:ad),fx [r] m→cY m→∀(K:R→ad→Prop),(∀bR cw b9 dA,bY l (cQ l n k a) bR a e q cw b9 dA→K (e7 bR) (ad.aX m [(r, .cells [.slice false (l.map cl), .int .i64 cw, .int .i64 n, .err 115 b9, .int .i64 dA])]))→bn Tryz.prog 127 [.ptr ⟨r,0,none⟩, .int .i64 d] (ad.aX m [(r, .cells [.slice false (l.map cl), .int .i64 a, .int .i64 n, .err 115 e, .int .i64 q])]) K) (ar:l.length≤5000) (aq:0≤a) (aH:a≤l.length) (he:0≤e) (aj:k=6) (m:ad) (gd:fx [r] m) (K:R→ad→Prop) (aJ:cY m) (U:∀bR cw b9 dA,bY l (k9 l n a) bR a e q cw b9 dA→K (e7 bR) (ad.aX m [(r, .cells [.slice false (l.map cl), .int .i64 cw, .int .i64 n, .err 115 b9, .int .i64 dA])])):bn Tryz.prog 65 [.ptr ⟨r,0,none⟩] (ad.aX m [(r, .cells [.slice false (l.map cl), .int .i64 a, .int .i64 n, .err 115 e, .int .i64 q])]) K:=by
 refine enter (c:=cP [] [] [3] [] [] [r]) (vs:=[.loc 0 0]) (L:=[bP l n a e q]) (m:=m) false cc Tryz.mixed Tryz.func65 rfl (k:=1) (by show cJ [] _ _ _=true;decide+kernel) rfl (gd.jq rfl) ?_
 refine fE [0] [bP l n a e q] (aw (fp l n a)) rfl (fun bs az gd=>KP l n a e q (bs.getD 0 0) ar (by omega) (by omega) az gd) ?_
 refine dK 115 [0] (σ:=aD×Int×Int×Int) (fun ⟨br,cj,b3,cy⟩=>bY l (cQ l n k a) br a e q cj b3 cy) (fun ⟨br,cj,b3,cy⟩=>k6 br) (fun ⟨br,cj,b3,cy⟩=>[bP l n cj b3 cy]) rfl (fun _=>rfl) (fun bs az gd ao K U=>aQ a e q 1 (by omega) (by omega) (by omega) (by omega) (bs.getD 0 0) az gd (cY.up ao aJ) K (fun gY de df dh ba=>U (gY,de,df,dh) ba)) ?_
 rintro ⟨br,cj,b3,cy⟩ b5
 dsimp only at b5
 have yS:=b5.bD
 have pT:=b5.ab
 have yT:=b5.dd
 refine aZ ?_
 refine cx [0,2,3,4] 18 ((b3==0)&&(!((h9 br)==0))) ?_ ?_
 · repeat' first
    |exact ⟨⟨_,rfl,by grind [bM.val]⟩,rfl⟩
    |refine an (fun _=>?_) (fun _=>?_)
    |refine ct (fun _=>Lr br) rfl ?_
 refine an (fun I=>?_) (fun I=>?_)
 · replace I:(b3=0)∧(h9 br≠0):=⟨(eq_of_beq (e4 I)),(ne_of_beq_false (dD (fY I)))⟩
   refine ct (fun _=>Lr br) rfl ?_
   refine rt rfl fun _=>?_
   show K (.agg [.int .i64 br.kind, .int .i64 br.v.kind, .int .i64 br.v.n, .str br.v.s, .slice false (br.v.l.map cm), .slice false (br.v.f.map bB), .str br.s, .str br.t, .slice false (br.a.map dv), .slice false (br.n.map cf)]) (ad.aX m [(r, .cells [.slice false (l.map cl), .int .i64 cj, .int .i64 n, .err 115 (h9 br), .int .i64 (fp l n a)])])
   subst aj
   exact U _ _ _ _ (b5.WG (Classical.byContradiction fun c=>by have:=(b5.st c).2.1;omega) I.1 I.2)
 replace I:(b3≠0)∨(h9 br=0):=((fZ I).imp (fun q=>(ne_of_beq_false q)) (fun q=>(eq_of_beq (dC q))))
 refine rt rfl fun _=>?_
 show K (.agg [.int .i64 br.kind, .int .i64 br.v.kind, .int .i64 br.v.n, .str br.v.s, .slice false (br.v.l.map cm), .slice false (br.v.f.map bB), .str br.s, .str br.t, .slice false (br.a.map dv), .slice false (br.n.map cf)]) (ad.aX m [(r, .cells [.slice false (l.map cl), .int .i64 cj, .int .i64 n, .err 115 b3, .int .i64 cy])])
 subst aj
 exact U _ _ _ _ (b5.WE fun aO=>I.resolve_left (fun aL=>aL aO))
set_option maxHeartbeats 2000000 in
theorem WI (s:ak) (l:List Tok) (al:s.length≤16777216) (iP:(eE s).1=l) (m:ad) (K:R→ad→Prop) (aJ:cY m) (U:K (.tuple [e7 (eA s).1, .int .i64 (eA s).2.1, .err 115 (eA s).2.2]) m):bn Tryz.prog 18 [.str s] m K:=by
 have ar:l.length≤5000:=by rw [←iP];have:=Vj s;omega
 have aaI:=Vh s
 refine enter (c:=cP [] [] [6] [9999] [9] []) (vs:=[.aK (.str s)]) (L:=[]) (m:=m) true cc Tryz.mixed Tryz.func18 rfl (k:=1) (by show cJ [9999] _ _ _=true;decide+kernel) rfl (Good.nil m) ?_
 refine ct (fun _=>fun m K U=>Vf s al m K (by rw [iP];exact U)) rfl ?_
 refine aZ ?_
 refine an (fun I=>?_) (fun I=>?_)
 · refine dK 115 [1] (σ:=aD×Int×Int×Int) (fun ⟨br,cj,b3,cy⟩=>bY l (k9 l s.length 0) br 0 0 0 cj b3 cy) (fun ⟨br,cj,b3,cy⟩=>k6 br) (fun ⟨br,cj,b3,cy⟩=>[bP l (s.length:Int) cj b3 cy]) rfl (fun _=>rfl) (fun bs az gd ao K U=>WH l (s.length:Int) 0 0 0 6 (bs.getD 1 0) (Lg l (s.length:Int) ar (by rw [←iP];exact Wa s) 6 (by decide)) ar (by omega) (by omega) (by omega) rfl az gd K (cY.up ao aJ) (fun gY de df dh ba=>U (gY,de,df,dh) ba)) ?_
   rintro ⟨br,cj,b3,cy⟩ b5
   dsimp only at b5
   have yS:=b5.bD
   have pT:=b5.ab
   have yT:=b5.dd
   refine aZ ?_
   refine cx [2,8,9] 44 ((b3==0)&&(decide (cj<(l.length:Int)))) ?_ ?_
   · repeat' first
      |exact ⟨⟨_,rfl,by grind [bM.val]⟩,rfl⟩
      |refine an (fun _=>?_) (fun _=>?_)
      |refine dq ?_
   refine an (fun J=>?_) (fun J=>?_)
   · replace J:(b3=0)∧(cj<(l.length:Int)):=⟨(eq_of_beq (e4 J)),(of_decide_eq_true (fY J))⟩
     refine dK 115 [1] (σ:=Int×Int) (fun ⟨eF,eY⟩=>(b3=0→eF=5∧eY=fp l (s.length:Int) cj)∧(b3≠0→eF=b3∧eY=cy)∧0<eF) (fun ⟨eF,eY⟩=> .ez []) (fun ⟨eF,eY⟩=>[bP l (s.length:Int) cj eF eY]) rfl (fun _=>rfl) (fun bs az gd ao K U=>sG l (s.length:Int) cj b3 cy 5 (bs.getD 1 0) (by decide) ar (by omega) (by omega) (by omega) az gd K (fun z=>U (5,fp l (s.length:Int) cj) ⟨fun _=>⟨rfl,rfl⟩,fun y=>absurd z y,by decide⟩) (fun z=>U (b3,cy) ⟨fun y=>absurd y z,fun _=>⟨rfl,rfl⟩,by omega⟩)) ?_
     rintro ⟨eF,eY⟩ eO
     dsimp only at eO
     obtain ⟨Br,Bs,KQ⟩:=eO
     refine aZ ?_
     refine an (fun ai=>?_) (fun ai=>?_)
     · refine bt rfl fun _=>?_
       show K (.tuple [.agg [.int .i64 br.kind, .int .i64 br.v.kind, .int .i64 br.v.n, .str br.v.s, .slice false (br.v.l.map cm), .slice false (br.v.f.map bB), .str br.s, .str br.t, .slice false (br.a.map dv), .slice false (br.n.map cf)], .int .i64 0, .err 115 0]) m
       exact absurd ai (by omega)
     refine lN cc Tryz.mixed (σ:=Unit) (.f 1 (.f 2 (.f 3 (.f 5 (.f 6 (.f 7 (.o 0 (.o 4 (.o 8 (.s 9 (.s 10 (.s 11 .d))) (.o 9 (.o 8 (.s 10 (.s 11 .d)) (.o 10 (.s 8 (.s 11 .d)) .z)) .z)) (.o 8 (.o 4 (.s 9 (.s 10 (.s 11 .d))) (.o 9 (.s 4 (.s 10 (.s 11 .d))) .z)) (.o 9 (.o 4 (.o 8 (.s 10 (.s 11 .d)) (.o 10 (.s 8 (.s 11 .d)) .z)) (.o 8 (.s 4 (.s 10 (.s 11 .d))) .z)) .z))) (.o 4 (.o 0 (.o 8 (.s 9 (.s 10 (.s 11 .d))) (.o 9 (.o 8 (.s 10 (.s 11 .d)) (.o 10 (.s 8 (.s 11 .d)) .z)) .z)) (.o 8 (.s 0 (.s 9 (.s 10 (.s 11 .d)))) .z)) (.o 8 (.o 0 (.o 4 (.s 9 (.s 10 (.s 11 .d))) (.o 9 (.s 4 (.s 10 (.s 11 .d))) .z)) (.o 4 (.s 0 (.s 9 (.s 10 (.s 11 .d)))) .z)) .z))))))))) [] [2,3,4] 3 (fun _=>([(2, .loc 0 0),(3,aw eY),(4, .aK (.err 115 eF))],[.cells [aw 0,aw 0,aw 0,bf ([]), .own [], .own [],bf ([]),bf ([]), .own [], .own []],bP l (s.length:Int) cj eF eY, .cells [aw br.kind,aw br.v.kind,aw br.v.n,bf br.v.s,bj (br.v.l.map cm),bj (br.v.f.map bB),bf br.s,bf br.t,bj (br.a.map dv),bj (br.n.map cf)]],m)) (fun _=>True) (by decide+kernel) ?_ ?_
     · rintro _ rv
       try dsimp only at rv
       refine bt rfl fun _=>?_
       show K (.tuple [.agg [.int .i64 0, .int .i64 0, .int .i64 0, .str ([]), .slice false [], .slice false [], .str ([]), .str ([]), .slice false [], .slice false []], .int .i64 eY, .err 115 eF]) m
       have e:=Fy iP (by omega) b5
       obtain ⟨rfl,rfl⟩:=Br J.1
       rw [if_pos J.1,if_pos (by omega)] at e
       rw [e] at U
       exact U
     repeat' first
      |refine ⟨(),⟨rfl,rfl⟩,trivial⟩
      |refine ⟨?_,?_,?_,trivial⟩
      |refine ⟨?_,?_,trivial⟩
   replace J:(b3≠0)∨((l.length:Int)≤cj):=((fZ J).imp (fun q=>(ne_of_beq_false q)) (fun q=>(Int.not_lt.1 (of_decide_eq_false q))))
   refine aZ ?_
   refine an (fun aC=>?_) (fun aC=>?_)
   · refine bt rfl fun _=>?_
     show K (.tuple [.agg [.int .i64 br.kind, .int .i64 br.v.kind, .int .i64 br.v.n, .str br.v.s, .slice false (br.v.l.map cm), .slice false (br.v.f.map bB), .str br.s, .str br.t, .slice false (br.a.map dv), .slice false (br.n.map cf)], .int .i64 0, .err 115 0]) m
     have e:=Fy iP (by omega) b5
     rw [if_pos aC,if_neg (by omega)] at e
     rw [e] at U
     exact U
   refine lN cc Tryz.mixed (σ:=Unit) (.f 1 (.f 2 (.f 3 (.f 5 (.f 6 (.f 7 (.o 0 (.o 4 (.o 8 (.s 9 (.s 10 (.s 11 .d))) (.o 9 (.o 8 (.s 10 (.s 11 .d)) (.o 10 (.s 8 (.s 11 .d)) .z)) .z)) (.o 8 (.o 4 (.s 9 (.s 10 (.s 11 .d))) (.o 9 (.s 4 (.s 10 (.s 11 .d))) .z)) (.o 9 (.o 4 (.o 8 (.s 10 (.s 11 .d)) (.o 10 (.s 8 (.s 11 .d)) .z)) (.o 8 (.s 4 (.s 10 (.s 11 .d))) .z)) .z))) (.o 4 (.o 0 (.o 8 (.s 9 (.s 10 (.s 11 .d))) (.o 9 (.o 8 (.s 10 (.s 11 .d)) (.o 10 (.s 8 (.s 11 .d)) .z)) .z)) (.o 8 (.s 0 (.s 9 (.s 10 (.s 11 .d)))) .z)) (.o 8 (.o 0 (.o 4 (.s 9 (.s 10 (.s 11 .d))) (.o 9 (.s 4 (.s 10 (.s 11 .d))) .z)) (.o 4 (.s 0 (.s 9 (.s 10 (.s 11 .d)))) .z)) .z))))))))) [] [2,3,4] 3 (fun _=>([(2, .loc 0 0),(3,aw cy),(4, .aK (.err 115 b3))],[.cells [aw 0,aw 0,aw 0,bf ([]), .own [], .own [],bf ([]),bf ([]), .own [], .own []],bP l (s.length:Int) cj b3 cy, .cells [aw br.kind,aw br.v.kind,aw br.v.n,bf br.v.s,bj (br.v.l.map cm),bj (br.v.f.map bB),bf br.s,bf br.t,bj (br.a.map dv),bj (br.n.map cf)]],m)) (fun _=>True) (by decide+kernel) ?_ ?_
   · rintro _ rv
     try dsimp only at rv
     refine bt rfl fun _=>?_
     show K (.tuple [.agg [.int .i64 0, .int .i64 0, .int .i64 0, .str ([]), .slice false [], .slice false [], .str ([]), .str ([]), .slice false [], .slice false []], .int .i64 cy, .err 115 b3]) m
     have e:=Fy iP (by omega) b5
     rw [if_neg aC] at e
     rw [e] at U
     exact U
   repeat' first
    |refine ⟨(),⟨rfl,rfl⟩,trivial⟩
    |refine ⟨?_,?_,?_,trivial⟩
    |refine ⟨?_,?_,trivial⟩
 refine bt rfl fun _=>?_
 show K (.tuple [.agg [.int .i64 0, .int .i64 0, .int .i64 0, .str ([]), .slice false [], .slice false [], .str ([]), .str ([]), .slice false [], .slice false []], .int .i64 ((eE s).2.1), .err 115 ((eE s).2.2)]) m
 have e:eA s=(hf,(eE s).2.1,(eE s).2.2):=by rw [eA,if_neg (by omega)]
 rw [e] at U
 exact U
theorem WJ (s:ak) (al:s.length≤16777216) (m:ad) (aJ:cY m) (K:R→ad→Prop) (U:K (.tuple [e7 (eA s).1, .int .i64 (eA s).2.1, .err 115 (eA s).2.2]) m):bn Tryz.prog 18 [.str s] m K:=WI s _ al rfl m K aJ U
end Go.Proofs
end
section
namespace Go.Proofs
open Go Go.bh Go.bS
set_option maxRecDepth 100000
open Classical in
theorem aD.ext' {a b:aD} (I:a.kind=b.kind) (J:a.v=b.v) (ai:a.s=b.s) (aC:a.t=b.t) (aN:a.a=b.a) (bE:a.n=b.n):a=b:=by
 cases a;cases b
 simp only [aD.kind,aD.v,aD.s,aD.t,aD.a,aD.n] at*
 subst I J ai aC aN bE;rfl
end Go.Proofs
end
section
namespace Go.Proofs
open Go Go.bh Go.bS
set_option maxRecDepth 100000
theorem Fz {α β:Type} [Inhabited α] [Inhabited β] {f:α→β} {l:List α} {i:Int} (aq:0≤i) (ab:i<l.length):aa (l.map f) i=f (aa l i):=
 Fx aq (by rw [List.getElem?_map,List.getElem?_eq_getElem (by omega),Option.map_some];exact congrArg some (congrArg f (Fx aq (List.getElem?_eq_getElem (by omega))).symm))
theorem FA {α β:Type} {g:β→ak} {f:α→β}:∀(l:List α) (b:Bool),dG g (l.map f) b=dG (fun x=>g (f x)) l b
 |[],b=>by rw [List.map_nil,dG,dG]
 |x::r,b=>by rw [List.map_cons,dG,dG,FA r]
theorem WK (l:List aD):l.length≤lV l:=by
 induction l with
 |nil=>simp
 |cons a r aQ=>simp only [lV,List.length_cons];have:=Fj a;omega
end Go.Proofs
end
section
namespace Go.Proofs
open Go Go.bh Go.bS
set_option maxRecDepth 100000
def WL:aD:= .mk 2 cK [97] [] [] []
def yx:aD:= .mk 1 (.mk 1 7 [] [] []) [] [] [] []
def bp:aD:= .mk 5 cK [] [] [WL,yx] []
end Go.Proofs
end
section
namespace Go.Proofs
open Go.Shelf
def Tryz.WM:Go.Shelf.Ren:=⟨fun|221=>167|268=>205|138=>206|143=>207|195=>223|197=>224|218=>225|219=>226|260=>235|217=>213|225=>236|224=>237|267=>238|266=>232|314=>242|n=>n,fun|9=>9|3=>3|31=>27|4=>4|0=>0|105=>285|21=>21|5=>5|46=>246|119=>301|139=>304|138=>303|146=>269|51=>268|n=>n,fun|1=>0|3=>6|4=>7|n=>n⟩
theorem Tryz.Bz:Go.Proofs.Lays.n221 Tryz.prog Tryz.WM:={
 mixed:=by kernel_rfl
 f138:=Tryz.func206.trans (congrArg some (by kernel_rfl))
 f143:=Tryz.func207.trans (congrArg some (by kernel_rfl))
 f195:=Tryz.func223.trans (congrArg some (by kernel_rfl))
 f197:=Tryz.func224.trans (congrArg some (by kernel_rfl))
 f217:=Tryz.func213.trans (congrArg some (by kernel_rfl))
 f218:=Tryz.func225.trans (congrArg some (by kernel_rfl))
 f219:=Tryz.func226.trans (congrArg some (by kernel_rfl))
 f221:=Tryz.func167.trans (congrArg some (by kernel_rfl))
 f224:=Tryz.func237.trans (congrArg some (by kernel_rfl))
 f225:=Tryz.func236.trans (congrArg some (by kernel_rfl))
 f260:=Tryz.func235.trans (congrArg some (by kernel_rfl))
 f266:=Tryz.func232.trans (congrArg some (by kernel_rfl))
 f267:=Tryz.func238.trans (congrArg some (by kernel_rfl))
 f268:=Tryz.func205.trans (congrArg some (by kernel_rfl))
 f314:=Tryz.func242.trans (congrArg some (by kernel_rfl))
 t0:=Tryz.underlying0
 a0:=Tryz.isAgg0
 z0:=Tryz.sizeOf0
 v0:=Tryz.zeroValue0
 t3:=Tryz.underlying3
 a3:=Tryz.isAgg3
 z3:=Tryz.sizeOf3
 v3:=Tryz.zeroValue3
 t4:=Tryz.underlying4
 a4:=Tryz.isAgg4
 z4:=Tryz.sizeOf4
 v4:=Tryz.zeroValue4
 t5:=Tryz.underlying5
 a5:=Tryz.isAgg5
 z5:=Tryz.sizeOf5
 v5:=Tryz.zeroValue5
 t9:=Tryz.underlying9
 a9:=Tryz.isAgg9
 z9:=Tryz.sizeOf9
 v9:=Tryz.zeroValue9
 t21:=Tryz.underlying21
 a21:=Tryz.isAgg21
 z21:=Tryz.sizeOf21
 v21:=Tryz.zeroValue21
 t31:=Tryz.underlying27
 a31:=Tryz.isAgg27
 z31:=Tryz.sizeOf27
 v31:=Tryz.zeroValue27
 t46:=Tryz.underlying246
 a46:=Tryz.isAgg246
 z46:=Tryz.sizeOf246
 v46:=Tryz.zeroValue246
 t51:=Tryz.underlying268
 a51:=Tryz.isAgg268
 z51:=Tryz.sizeOf268
 v51:=Tryz.zeroValue268
 t105:=Tryz.underlying285
 a105:=Tryz.isAgg285
 z105:=Tryz.sizeOf285
 v105:=Tryz.zeroValue285
 t119:=Tryz.underlying301
 a119:=Tryz.isAgg301
 z119:=Tryz.sizeOf301
 t138:=Tryz.underlying303
 a138:=Tryz.isAgg303
 z138:=Tryz.sizeOf303
 v138:=Tryz.zeroValue303
 t139:=Tryz.underlying304
 a139:=Tryz.isAgg304
 z139:=Tryz.sizeOf304
 v139:=Tryz.zeroValue304
 t146:=Tryz.underlying269
 a146:=Tryz.isAgg269
 z146:=Tryz.sizeOf269
 v146:=Tryz.zeroValue269
 g1:=by kernel_rfl
 g3:=by kernel_rfl
 g4:=by kernel_rfl}
theorem Tryz.stringslite_Index_one (s:ByteArray) (c:UInt8) (w:World):
 Calls Tryz.prog 226 #[.string s, .string ⟨#[c]⟩] w fun e w'=>e= .returned (.int .i64 (Lib.indexByte s.data.toList c))∧w'=w:=Any.stringslite_Index_one {Tryz.Bz with} s c w
theorem Tryz.strings_Index_one (s:ByteArray) (c:UInt8) (w:World):
 Calls Tryz.prog 207 #[.string s, .string ⟨#[c]⟩] w fun e w'=>e= .returned (.int .i64 (Lib.indexByte s.data.toList c))∧w'=w:=Any.strings_Index_one {Tryz.Bz with} s c w
theorem Tryz.strings_Count_one (s:ByteArray) (c:UInt8) (w:World):
 Calls Tryz.prog 206 #[.string s, .string ⟨#[c]⟩] w fun e w'=>e= .returned (.int .i64 (Lib.countByte s.data.toList c))∧w'=w:=Any.strings_Count_one {Tryz.Bz with} s c w
def Tryz.WN:Go.Shelf.Ren:=⟨fun|148=>106|222=>165|223=>166|269=>204|n=>n,fun|9=>9|3=>3|4=>4|5=>5|146=>269|51=>268|46=>246|n=>n,fun|n=>n⟩
theorem Tryz.WO:Go.Proofs.Lays.n148 Tryz.prog Tryz.WN:={
 mixed:=by kernel_rfl
 f148:=Tryz.func106.trans (congrArg some (by kernel_rfl))
 f222:=Tryz.func165.trans (congrArg some (by kernel_rfl))
 f223:=Tryz.func166.trans (congrArg some (by kernel_rfl))
 f269:=Tryz.func204.trans (congrArg some (by kernel_rfl))
 t3:=Tryz.underlying3
 a3:=Tryz.isAgg3
 z3:=Tryz.sizeOf3
 v3:=Tryz.zeroValue3
 t4:=Tryz.underlying4
 a4:=Tryz.isAgg4
 z4:=Tryz.sizeOf4
 v4:=Tryz.zeroValue4
 t5:=Tryz.underlying5
 a5:=Tryz.isAgg5
 z5:=Tryz.sizeOf5
 v5:=Tryz.zeroValue5
 t9:=Tryz.underlying9
 a9:=Tryz.isAgg9
 z9:=Tryz.sizeOf9
 v9:=Tryz.zeroValue9
 t46:=Tryz.underlying246
 a46:=Tryz.isAgg246
 z46:=Tryz.sizeOf246
 v46:=Tryz.zeroValue246
 t51:=Tryz.underlying268
 a51:=Tryz.isAgg268
 z51:=Tryz.sizeOf268
 v51:=Tryz.zeroValue268
 t146:=Tryz.underlying269
 a146:=Tryz.isAgg269
 z146:=Tryz.sizeOf269
 v146:=Tryz.zeroValue269}
open Go.RowKit Go.Lib in
theorem Tryz.strings_LastIndex (s sub:ByteArray) (al:s.size<4611686018427387904) (w:World):
 Calls Tryz.prog 106 #[.string s, .string sub] w fun e w'=>e= .returned (.int .i64 (Lib.lastIndex s.data.toList sub.data.toList))∧w'=w:=Any.strings_LastIndex Tryz.WO s sub al w
def Tryz.WQ:Go.Shelf.Ren:=⟨fun|102=>108|209=>168|207=>208|n=>n,fun|9=>9|4=>4|3=>3|n=>n,fun|n=>n⟩
theorem Tryz.WR:Go.Proofs.Lays.n102 Tryz.prog Tryz.WQ:={
 mixed:=by kernel_rfl
 f102:=Tryz.func108.trans (congrArg some (by kernel_rfl))
 f207:=Tryz.func208.trans (congrArg some (by kernel_rfl))
 f209:=Tryz.func168.trans (congrArg some (by kernel_rfl))
 t3:=Tryz.underlying3
 a3:=Tryz.isAgg3
 z3:=Tryz.sizeOf3
 v3:=Tryz.zeroValue3
 t4:=Tryz.underlying4
 a4:=Tryz.isAgg4
 z4:=Tryz.sizeOf4
 v4:=Tryz.zeroValue4
 t9:=Tryz.underlying9
 a9:=Tryz.isAgg9
 z9:=Tryz.sizeOf9
 v9:=Tryz.zeroValue9}
open Go.RowKit Go.Lib in
theorem Tryz.strings_TrimSuffix (s p:ByteArray) (w:World) (al:s.size≤9223372036854775807):
 Calls Tryz.prog 108 #[.string s, .string p] w fun e w'=>e= .returned (.string ⟨(Lib.trimSuffix s.data.toList p.data.toList).toArray⟩)∧w'=w:=Any.strings_TrimSuffix Tryz.WR s p w al
theorem Tryz.WS (s:ByteArray) (c:UInt8) (n:Int) (N:Nat) (w:World) (al:s.size<4294967281) (yC:n≠0) (FB:n≤9223372036854775807) (cd:(N:Int)=min (if n<0 then (Lib.countB s ⟨#[c]⟩:Int)+1 else n) ((s.size:Int)+1)):
 Calls Tryz.prog 167 #[.string s, .string ⟨#[c]⟩, .int .i64 0, .int .i64 n] w fun e w'=>
  e= .returned (.slice (some ⟨w.heap.size,0,none⟩) (Lib.splitB ⟨#[c]⟩ 0 (N- 1) s).length N)∧w'=w.alloc (.cells (Lib.cellsOf (Lib.splitB ⟨#[c]⟩ 0 (N- 1) s) N) 9):=
 Any.strings_genSplit_core Tryz.Bz (by kernel_rfl) s ⟨#[c]⟩ 0 n N w al (Nat.le_refl 1) (Nat.zero_le _)
  (fun x cs _=>(Tryz.strings_Index_one x c _).mono fun e w' ⟨he,hw⟩=>⟨by rw [he];show _=Ending.returned (Value.int .i64 (Lib.index x.data.toList [c]));rw [Lib.index_one],hw⟩)
  ((Tryz.strings_Count_one s c w).mono fun e w' ⟨he,hw⟩=>⟨by rw [he];show _=Ending.returned (Value.int .i64 ((Lib.count s.data.toList [c]:Nat):Int));rw [Lib.count_one];rfl,hw⟩) yC FB cd
end Go.Proofs
end
section
namespace Go.Proofs
open Go.Shelf
open Go.RowKit in
theorem Tryz.strconv_Atoi_ok (s:ByteArray) (WT:s.size≤9223372036854775806) (v:Int) (h:Lib.atoiAll s.data.toList= .ok v) (w:World):
 Calls Tryz.prog 170 #[.string s] w fun e w'=>e= .returned (.tuple #[.int .i64 v, .nilIface])∧(w'=w∨∃t,w'=Lib.bytesWorld w 5 t):=Any.strconv_Atoi_ok Tryz.A7 s WT v h w
open Go.RowKit in
theorem Tryz.strconv_Atoi_syntax (s:ByteArray) (ek:s.size≤281474976710656) (h:Lib.atoiAll s.data.toList= Lib.NumEnd.syntax) (fq:Value) (w:World) (bc:w.cell? ⟨2,0,none⟩=some fq) (n5:fq= .nilIface∨∃te pW,fq= .iface te pW):
 Calls Tryz.prog 170 #[.string s] w fun e w'=>∃N,e= .returned (.tuple #[.int .i64 (0), .iface 290 (.pointer (some ⟨N,0,none⟩))])∧w.heap.size≤N∧w'.heap[N]?=some (.cells #[.string ⟨#[65,116,111,105]⟩, .string s,fq] 297 (0,0))∧Below w.heap.size w w':=Any.strconv_Atoi_syntax Tryz.A7 s ek h fq w bc n5
open Go.RowKit in
theorem Tryz.strconv_Atoi_range (s:ByteArray) (ek:s.size≤281474976710656) (h:Lib.atoiAll s.data.toList= .range) (fq:Value) (w:World) (bc:w.cell? ⟨3,0,none⟩=some fq) (n5:fq= .nilIface∨∃te pW,fq= .iface te pW):
 Calls Tryz.prog 170 #[.string s] w fun e w'=>∃N,e= .returned (.tuple #[.int .i64 (Lib.atoiSat s.data.toList), .iface 290 (.pointer (some ⟨N,0,none⟩))])∧w.heap.size≤N∧w'.heap[N]?=some (.cells #[.string ⟨#[65,116,111,105]⟩, .string s,fq] 297 (0,0))∧Below w.heap.size w w':=Any.strconv_Atoi_range Tryz.A7 s ek h fq w bc n5
end Go.Proofs
end
section
namespace Go.Proofs
open Go Go.bh
set_option maxRecDepth 100000
structure e3 where
 name:ak
 data:ak
 to:ak
 kind:Int
instance:Inhabited e3:=⟨⟨[],[],[],0⟩⟩
def di (c:e3):R:= .agg [.str c.name, .str c.data, .str c.to,bl c.kind]
structure cz where
 kept:List (ak×ak)
 now:List (ak×ak)
 wait:List e3
 cu:Int
 down:Bool
 steps:Int
def eN (l:List (ak×ak)) (c:e3):List (ak×ak):=
 if c.kind=1∨c.kind=3 then dJ l c.name c.data
 else if c.kind=2 then dJ l c.name ((cn l c.name).getD []++c.data)
 else if c.kind=4 then fO (dJ l c.to ((cn l c.name).getD [])) c.name
 else if c.kind=5 then fO l c.name
 else l
def a7 (s:cz):cz×Int:=
 if s.down=true then (s,10)
 else if s.cu=0 then ({s with down:=true,cu:=-1},10)
 else ({s with cu:=if 0<s.cu then s.cu- 1 else s.cu,steps:=s.steps+1},0)
def gg (s:cz) (c:e3):cz×Int:=
 if (a7 s).2≠0 then a7 s
 else ({(a7 s).1 with now:=eN s.now c,wait:=s.wait++[c]},0)
theorem LB {l:List (ak×ak)} {k:ak} {B:Nat} (h:∀p∈l,p.2.length≤B):((cn l k).getD []).length≤B:=by
 induction l with
 |nil=>simp [cn]
 |cons p r aQ=>
  obtain ⟨a,b⟩:=p
  simp only [cn]
  split
  · exact h (a,b) (by simp)
  · exact aQ (fun p aB=>h p (by simp [aB]))
theorem pc (d:Nat):[d].Nodup:=by simp
def bN (aT aG:Nat) (s:cz):ed:= .cells [.map aT, .map aG,iQ (s.wait.map di),bl s.cu, .bool s.down,bl s.steps]
def aS (l:List (ak×ak)):ed:= .map (l.map (C7 cf cf))
set_option maxHeartbeats 2000000 in
theorem LC (b:Nat) (l:List (ak×ak)) (c:e3) (ar:l.length≤1099511627776) (ae:∀p∈l,p.2.length≤1099511627776) (ag:c.data.length≤1099511627776) (m:ad) (K:R→ad→Prop) (U:K (.tuple []) (bX m [(b,aS (eN l c))])):bn Tryz.prog 116 [.map b,di c] (bX m [(b,aS l)]) K:=by
 have a8:=LB (k:=c.name) ae
 refine oS Tryz.func116 rfl (by decide) (dF rfl) ?_
 show b7 _ _ _ _ [(0, .map b),(1,di c)] (bX m [(b,aS l)])
 refine dE [] [0,3] (by decide) ?_
 intro aU aV
 refine C3 rfl (m:=m) (L:=[(b,aS l)]) (v:=di c) (by rfl) rfl ?_
 intro bH iO
 have lZ:m bH=none:=u4 iO
 have dx:([bH,b]:List Nat).Nodup:=u3 iO (pc b)
 show aU [(0, .map b),(3,cS bH)] (bX m [(bH, .cells [.str c.name, .str c.data, .str c.to,bl c.kind]),(b,aS l)])
 refine aV _ _ ?_;clear aV aU
 refine dE [] [0,3,5] (by decide) ?_
 intro aU aV
 refine ⟨⟨rfl,by decide⟩,?_⟩
 refine ht rfl (v:=bl c.kind) rfl (fg 0 dx rfl) rfl (hb rfl rfl (dF rfl)) rfl ?_
 show aU [(0, .map b),(3,cS bH),(5,bl c.kind)] _
 refine aV _ _ ?_;clear aV aU
 refine uH ?_
 refine ln ?_;intro rp hl
 refine dE [] [0,3,5,6] (by decide) ?_
 intro aU aV
 refine ⟨bg,bg,?_⟩
 show aU [(0, .map b),(3,cS bH),(5,bl c.kind),(6, .bool (c.kind==1))] _
 refine aV _ _ ?_;clear aV aU
 refine jn rfl rfl (fun I=>?_) (fun I=>?_)
 ·
  replace I:c.kind=1:=(eq_of_beq I)
  refine jF ?_
  refine hl _ _ ?_;clear hl
  refine jn rfl rfl (fun J=>?_) (fun J=>?_)
  ·
   replace J:c.kind=1:=(eq_of_beq J)
   refine n9 [] [] (by decide) ?_
   intro aU aV
   refine ⟨bg,⟨rfl,by decide⟩,?_⟩
   refine ht rfl (v:= .str c.name) rfl (fg 0 dx rfl) rfl (hb rfl rfl (dF rfl)) rfl ?_
   refine ⟨⟨rfl,by decide⟩,?_⟩
   refine ht rfl (v:= .str c.data) rfl (fg 0 dx rfl) rfl (hb rfl rfl (dF rfl)) rfl ?_
   refine u7 rfl (m:=m) (L:=[(bH, .cells [.str c.name, .str c.data, .str c.to,bl c.kind]),(b,aS l)]) 1 cf cf lK l c.name c.data rfl rfl rfl rfl rfl rfl dx (by refine Nat.le_trans (qV _ _ _) (by omega)) ?_
   show aU [] (bX m [(bH, .cells [.str c.name, .str c.data, .str c.to,bl c.kind]),(b,aS (dJ l c.name c.data))])
   refine aV _ _ ?_;clear aV aU
   refine ⟨(bX m [(b,aS (dJ l c.name c.data))]),(ob (m:=m) [(bH, .cells [.str c.name, .str c.data, .str c.to,bl c.kind])] [(b,aS (dJ l c.name c.data))] dx (by simp only [List.map_cons,List.map_nil,List.forall_mem_cons];exact ⟨lZ,kV⟩)),?_⟩
   show K (.tuple []) (ad.aX m [(b,aS (dJ l c.name c.data))])
   have bp:eN l c=(dJ l c.name c.data:List (ak×ak)):=by
    unfold eN;simp_all
   rw [bp] at U
   exact U
  replace J:c.kind≠1:=(ne_of_beq_false J)
  refine dE [] [0,3,5,14] (by decide) ?_
  intro aU aV
  refine ⟨bg,bg,?_⟩
  show aU [(0, .map b),(3,cS bH),(5,bl c.kind),(14, .bool (c.kind==2))] (bX m [(bH, .cells [.str c.name, .str c.data, .str c.to,bl c.kind]),(b,aS l)])
  refine aV _ _ ?_;clear aV aU
  refine jn rfl rfl (fun ai=>?_) (fun ai=>?_)
  ·
   replace ai:c.kind=2:=(eq_of_beq ai)
   refine n9 [] [] (by decide) ?_
   intro aU aV
   refine ⟨bg,⟨rfl,by decide⟩,?_⟩
   refine ht rfl (v:= .str c.name) rfl (fg 0 dx rfl) rfl (hb rfl rfl (dF rfl)) rfl ?_
   refine z6 rfl (m:=m) (L:=[(bH, .cells [.str c.name, .str c.data, .str c.to,bl c.kind]),(b,aS l)]) cf cf lK l c.name [] rfl rfl rfl rfl rfl (fg 1 dx rfl) rfl ?_
   refine ⟨⟨rfl,by decide⟩,?_⟩
   refine ht rfl (v:= .str c.data) rfl (fg 0 dx rfl) rfl (hb rfl rfl (dF rfl)) rfl ?_
   refine ⟨(by omega),?_⟩
   refine u7 rfl (m:=m) (L:=[(bH, .cells [.str c.name, .str c.data, .str c.to,bl c.kind]),(b,aS l)]) 1 cf cf lK l c.name (((cn l c.name).getD [])++c.data) rfl rfl rfl rfl rfl rfl dx (by refine Nat.le_trans (qV _ _ _) (by omega)) ?_
   show aU [] (bX m [(bH, .cells [.str c.name, .str c.data, .str c.to,bl c.kind]),(b,aS (dJ l c.name (((cn l c.name).getD [])++c.data)))])
   refine aV _ _ ?_;clear aV aU
   refine ⟨(bX m [(b,aS (dJ l c.name (((cn l c.name).getD [])++c.data)))]),(ob (m:=m) [(bH, .cells [.str c.name, .str c.data, .str c.to,bl c.kind])] [(b,aS (dJ l c.name (((cn l c.name).getD [])++c.data)))] dx (by simp only [List.map_cons,List.map_nil,List.forall_mem_cons];exact ⟨lZ,kV⟩)),?_⟩
   show K (.tuple []) (ad.aX m [(b,aS (dJ l c.name (((cn l c.name).getD [])++c.data)))])
   have bp:eN l c=(dJ l c.name (((cn l c.name).getD [])++c.data):List (ak×ak)):=by
    unfold eN;simp_all
   rw [bp] at U
   exact U
  replace ai:c.kind≠2:=(ne_of_beq_false ai)
  refine dE [] [0,3,5,23] (by decide) ?_
  intro aU aV
  refine ⟨bg,bg,?_⟩
  show aU [(0, .map b),(3,cS bH),(5,bl c.kind),(23, .bool (c.kind==4))] (bX m [(bH, .cells [.str c.name, .str c.data, .str c.to,bl c.kind]),(b,aS l)])
  refine aV _ _ ?_;clear aV aU
  refine jn rfl rfl (fun aC=>?_) (fun aC=>?_)
  ·
   replace aC:c.kind=4:=(eq_of_beq aC)
   refine dE [] [0,3] (by decide) ?_
   intro aU aV
   refine ⟨bg,⟨rfl,by decide⟩,?_⟩
   refine ht rfl (v:= .str c.to) rfl (fg 0 dx rfl) rfl (hb rfl rfl (dF rfl)) rfl ?_
   refine ⟨bg,⟨rfl,by decide⟩,?_⟩
   refine ht rfl (v:= .str c.name) rfl (fg 0 dx rfl) rfl (hb rfl rfl (dF rfl)) rfl ?_
   refine z6 rfl (m:=m) (L:=[(bH, .cells [.str c.name, .str c.data, .str c.to,bl c.kind]),(b,aS l)]) cf cf lK l c.name [] rfl rfl rfl rfl rfl (fg 1 dx rfl) rfl ?_
   refine u7 rfl (m:=m) (L:=[(bH, .cells [.str c.name, .str c.data, .str c.to,bl c.kind]),(b,aS l)]) 1 cf cf lK l c.to ((cn l c.name).getD []) rfl rfl rfl rfl rfl rfl dx (by refine Nat.le_trans (qV _ _ _) (by omega)) ?_
   show aU [(0, .map b),(3,cS bH)] (bX m [(bH, .cells [.str c.name, .str c.data, .str c.to,bl c.kind]),(b,aS (dJ l c.to ((cn l c.name).getD [])))])
   refine aV _ _ ?_;clear aV aU
   refine n9 [] [] (by decide) ?_
   intro aU aV
   refine ⟨bg,⟨rfl,by decide⟩,?_⟩
   refine ht rfl (v:= .str c.name) rfl (fg 0 dx rfl) rfl (hb rfl rfl (dF rfl)) rfl ?_
   refine z8 rfl (m:=m) (L:=[(bH, .cells [.str c.name, .str c.data, .str c.to,bl c.kind]),(b,aS (dJ l c.to ((cn l c.name).getD [])))]) 1 cf cf lK (dJ l c.to ((cn l c.name).getD [])) c.name rfl rfl rfl rfl rfl dx ?_
   show aU [] (bX m [(bH, .cells [.str c.name, .str c.data, .str c.to,bl c.kind]),(b,aS (fO (dJ l c.to ((cn l c.name).getD [])) c.name))])
   refine aV _ _ ?_;clear aV aU
   refine ⟨(bX m [(b,aS (fO (dJ l c.to ((cn l c.name).getD [])) c.name))]),(ob (m:=m) [(bH, .cells [.str c.name, .str c.data, .str c.to,bl c.kind])] [(b,aS (fO (dJ l c.to ((cn l c.name).getD [])) c.name))] dx (by simp only [List.map_cons,List.map_nil,List.forall_mem_cons];exact ⟨lZ,kV⟩)),?_⟩
   show K (.tuple []) (ad.aX m [(b,aS (fO (dJ l c.to ((cn l c.name).getD [])) c.name))])
   have bp:eN l c=(fO (dJ l c.to ((cn l c.name).getD [])) c.name:List (ak×ak)):=by
    unfold eN;simp_all
   rw [bp] at U
   exact U
  replace aC:c.kind≠4:=(ne_of_beq_false aC)
  refine dE [] [0,3,35] (by decide) ?_
  intro aU aV
  refine ⟨bg,bg,?_⟩
  show aU [(0, .map b),(3,cS bH),(35, .bool (c.kind==5))] (bX m [(bH, .cells [.str c.name, .str c.data, .str c.to,bl c.kind]),(b,aS l)])
  refine aV _ _ ?_;clear aV aU
  refine jn rfl rfl (fun aN=>?_) (fun aN=>?_)
  ·
   replace aN:c.kind=5:=(eq_of_beq aN)
   refine n9 [] [] (by decide) ?_
   intro aU aV
   refine ⟨bg,⟨rfl,by decide⟩,?_⟩
   refine ht rfl (v:= .str c.name) rfl (fg 0 dx rfl) rfl (hb rfl rfl (dF rfl)) rfl ?_
   refine z8 rfl (m:=m) (L:=[(bH, .cells [.str c.name, .str c.data, .str c.to,bl c.kind]),(b,aS l)]) 1 cf cf lK l c.name rfl rfl rfl rfl rfl dx ?_
   show aU [] (bX m [(bH, .cells [.str c.name, .str c.data, .str c.to,bl c.kind]),(b,aS (fO l c.name))])
   refine aV _ _ ?_;clear aV aU
   refine ⟨(bX m [(b,aS (fO l c.name))]),(ob (m:=m) [(bH, .cells [.str c.name, .str c.data, .str c.to,bl c.kind])] [(b,aS (fO l c.name))] dx (by simp only [List.map_cons,List.map_nil,List.forall_mem_cons];exact ⟨lZ,kV⟩)),?_⟩
   show K (.tuple []) (ad.aX m [(b,aS (fO l c.name))])
   have bp:eN l c=(fO l c.name:List (ak×ak)):=by
    unfold eN;simp_all
   rw [bp] at U
   exact U
  replace aN:c.kind≠5:=(ne_of_beq_false aN)
  refine jF ?_
  refine ⟨(bX m [(b,aS l)]),(ob (m:=m) [(bH, .cells [.str c.name, .str c.data, .str c.to,bl c.kind])] [(b,aS l)] dx (by simp only [List.map_cons,List.map_nil,List.forall_mem_cons];exact ⟨lZ,kV⟩)),?_⟩
  show K (.tuple []) (ad.aX m [(b,aS l)])
  have bp:eN l c=(l:List (ak×ak)):=by
   unfold eN;simp_all
  rw [bp] at U
  exact U
 replace I:c.kind≠1:=(ne_of_beq_false I)
 refine n9 [] [0,3,5,6] (by decide) ?_
 intro aU aV
 refine ⟨bg,bg,?_⟩
 show aU [(0, .map b),(3,cS bH),(5,bl c.kind),(6, .bool (c.kind==3))] (bX m [(bH, .cells [.str c.name, .str c.data, .str c.to,bl c.kind]),(b,aS l)])
 refine aV _ _ ?_;clear aV aU
 refine hl _ _ ?_;clear hl
 refine jn rfl rfl (fun bE=>?_) (fun bE=>?_)
 ·
  replace bE:c.kind=3:=(eq_of_beq bE)
  refine n9 [] [] (by decide) ?_
  intro aU aV
  refine ⟨bg,⟨rfl,by decide⟩,?_⟩
  refine ht rfl (v:= .str c.name) rfl (fg 0 dx rfl) rfl (hb rfl rfl (dF rfl)) rfl ?_
  refine ⟨⟨rfl,by decide⟩,?_⟩
  refine ht rfl (v:= .str c.data) rfl (fg 0 dx rfl) rfl (hb rfl rfl (dF rfl)) rfl ?_
  refine u7 rfl (m:=m) (L:=[(bH, .cells [.str c.name, .str c.data, .str c.to,bl c.kind]),(b,aS l)]) 1 cf cf lK l c.name c.data rfl rfl rfl rfl rfl rfl dx (by refine Nat.le_trans (qV _ _ _) (by omega)) ?_
  show aU [] (bX m [(bH, .cells [.str c.name, .str c.data, .str c.to,bl c.kind]),(b,aS (dJ l c.name c.data))])
  refine aV _ _ ?_;clear aV aU
  refine ⟨(bX m [(b,aS (dJ l c.name c.data))]),(ob (m:=m) [(bH, .cells [.str c.name, .str c.data, .str c.to,bl c.kind])] [(b,aS (dJ l c.name c.data))] dx (by simp only [List.map_cons,List.map_nil,List.forall_mem_cons];exact ⟨lZ,kV⟩)),?_⟩
  show K (.tuple []) (ad.aX m [(b,aS (dJ l c.name c.data))])
  have bp:eN l c=(dJ l c.name c.data:List (ak×ak)):=by
   unfold eN;simp_all
  rw [bp] at U
  exact U
 replace bE:c.kind≠3:=(ne_of_beq_false bE)
 refine dE [] [0,3,5,14] (by decide) ?_
 intro aU aV
 refine ⟨bg,bg,?_⟩
 show aU [(0, .map b),(3,cS bH),(5,bl c.kind),(14, .bool (c.kind==2))] (bX m [(bH, .cells [.str c.name, .str c.data, .str c.to,bl c.kind]),(b,aS l)])
 refine aV _ _ ?_;clear aV aU
 refine jn rfl rfl (fun dk=>?_) (fun dk=>?_)
 ·
  replace dk:c.kind=2:=(eq_of_beq dk)
  refine n9 [] [] (by decide) ?_
  intro aU aV
  refine ⟨bg,⟨rfl,by decide⟩,?_⟩
  refine ht rfl (v:= .str c.name) rfl (fg 0 dx rfl) rfl (hb rfl rfl (dF rfl)) rfl ?_
  refine z6 rfl (m:=m) (L:=[(bH, .cells [.str c.name, .str c.data, .str c.to,bl c.kind]),(b,aS l)]) cf cf lK l c.name [] rfl rfl rfl rfl rfl (fg 1 dx rfl) rfl ?_
  refine ⟨⟨rfl,by decide⟩,?_⟩
  refine ht rfl (v:= .str c.data) rfl (fg 0 dx rfl) rfl (hb rfl rfl (dF rfl)) rfl ?_
  refine ⟨(by omega),?_⟩
  refine u7 rfl (m:=m) (L:=[(bH, .cells [.str c.name, .str c.data, .str c.to,bl c.kind]),(b,aS l)]) 1 cf cf lK l c.name (((cn l c.name).getD [])++c.data) rfl rfl rfl rfl rfl rfl dx (by refine Nat.le_trans (qV _ _ _) (by omega)) ?_
  show aU [] (bX m [(bH, .cells [.str c.name, .str c.data, .str c.to,bl c.kind]),(b,aS (dJ l c.name (((cn l c.name).getD [])++c.data)))])
  refine aV _ _ ?_;clear aV aU
  refine ⟨(bX m [(b,aS (dJ l c.name (((cn l c.name).getD [])++c.data)))]),(ob (m:=m) [(bH, .cells [.str c.name, .str c.data, .str c.to,bl c.kind])] [(b,aS (dJ l c.name (((cn l c.name).getD [])++c.data)))] dx (by simp only [List.map_cons,List.map_nil,List.forall_mem_cons];exact ⟨lZ,kV⟩)),?_⟩
  show K (.tuple []) (ad.aX m [(b,aS (dJ l c.name (((cn l c.name).getD [])++c.data)))])
  have bp:eN l c=(dJ l c.name (((cn l c.name).getD [])++c.data):List (ak×ak)):=by
   unfold eN;simp_all
  rw [bp] at U
  exact U
 replace dk:c.kind≠2:=(ne_of_beq_false dk)
 refine dE [] [0,3,5,23] (by decide) ?_
 intro aU aV
 refine ⟨bg,bg,?_⟩
 show aU [(0, .map b),(3,cS bH),(5,bl c.kind),(23, .bool (c.kind==4))] (bX m [(bH, .cells [.str c.name, .str c.data, .str c.to,bl c.kind]),(b,aS l)])
 refine aV _ _ ?_;clear aV aU
 refine jn rfl rfl (fun cW=>?_) (fun cW=>?_)
 ·
  replace cW:c.kind=4:=(eq_of_beq cW)
  refine dE [] [0,3] (by decide) ?_
  intro aU aV
  refine ⟨bg,⟨rfl,by decide⟩,?_⟩
  refine ht rfl (v:= .str c.to) rfl (fg 0 dx rfl) rfl (hb rfl rfl (dF rfl)) rfl ?_
  refine ⟨bg,⟨rfl,by decide⟩,?_⟩
  refine ht rfl (v:= .str c.name) rfl (fg 0 dx rfl) rfl (hb rfl rfl (dF rfl)) rfl ?_
  refine z6 rfl (m:=m) (L:=[(bH, .cells [.str c.name, .str c.data, .str c.to,bl c.kind]),(b,aS l)]) cf cf lK l c.name [] rfl rfl rfl rfl rfl (fg 1 dx rfl) rfl ?_
  refine u7 rfl (m:=m) (L:=[(bH, .cells [.str c.name, .str c.data, .str c.to,bl c.kind]),(b,aS l)]) 1 cf cf lK l c.to ((cn l c.name).getD []) rfl rfl rfl rfl rfl rfl dx (by refine Nat.le_trans (qV _ _ _) (by omega)) ?_
  show aU [(0, .map b),(3,cS bH)] (bX m [(bH, .cells [.str c.name, .str c.data, .str c.to,bl c.kind]),(b,aS (dJ l c.to ((cn l c.name).getD [])))])
  refine aV _ _ ?_;clear aV aU
  refine n9 [] [] (by decide) ?_
  intro aU aV
  refine ⟨bg,⟨rfl,by decide⟩,?_⟩
  refine ht rfl (v:= .str c.name) rfl (fg 0 dx rfl) rfl (hb rfl rfl (dF rfl)) rfl ?_
  refine z8 rfl (m:=m) (L:=[(bH, .cells [.str c.name, .str c.data, .str c.to,bl c.kind]),(b,aS (dJ l c.to ((cn l c.name).getD [])))]) 1 cf cf lK (dJ l c.to ((cn l c.name).getD [])) c.name rfl rfl rfl rfl rfl dx ?_
  show aU [] (bX m [(bH, .cells [.str c.name, .str c.data, .str c.to,bl c.kind]),(b,aS (fO (dJ l c.to ((cn l c.name).getD [])) c.name))])
  refine aV _ _ ?_;clear aV aU
  refine ⟨(bX m [(b,aS (fO (dJ l c.to ((cn l c.name).getD [])) c.name))]),(ob (m:=m) [(bH, .cells [.str c.name, .str c.data, .str c.to,bl c.kind])] [(b,aS (fO (dJ l c.to ((cn l c.name).getD [])) c.name))] dx (by simp only [List.map_cons,List.map_nil,List.forall_mem_cons];exact ⟨lZ,kV⟩)),?_⟩
  show K (.tuple []) (ad.aX m [(b,aS (fO (dJ l c.to ((cn l c.name).getD [])) c.name))])
  have bp:eN l c=(fO (dJ l c.to ((cn l c.name).getD [])) c.name:List (ak×ak)):=by
   unfold eN;simp_all
  rw [bp] at U
  exact U
 replace cW:c.kind≠4:=(ne_of_beq_false cW)
 refine dE [] [0,3,35] (by decide) ?_
 intro aU aV
 refine ⟨bg,bg,?_⟩
 show aU [(0, .map b),(3,cS bH),(35, .bool (c.kind==5))] (bX m [(bH, .cells [.str c.name, .str c.data, .str c.to,bl c.kind]),(b,aS l)])
 refine aV _ _ ?_;clear aV aU
 refine jn rfl rfl (fun dB=>?_) (fun dB=>?_)
 ·
  replace dB:c.kind=5:=(eq_of_beq dB)
  refine n9 [] [] (by decide) ?_
  intro aU aV
  refine ⟨bg,⟨rfl,by decide⟩,?_⟩
  refine ht rfl (v:= .str c.name) rfl (fg 0 dx rfl) rfl (hb rfl rfl (dF rfl)) rfl ?_
  refine z8 rfl (m:=m) (L:=[(bH, .cells [.str c.name, .str c.data, .str c.to,bl c.kind]),(b,aS l)]) 1 cf cf lK l c.name rfl rfl rfl rfl rfl dx ?_
  show aU [] (bX m [(bH, .cells [.str c.name, .str c.data, .str c.to,bl c.kind]),(b,aS (fO l c.name))])
  refine aV _ _ ?_;clear aV aU
  refine ⟨(bX m [(b,aS (fO l c.name))]),(ob (m:=m) [(bH, .cells [.str c.name, .str c.data, .str c.to,bl c.kind])] [(b,aS (fO l c.name))] dx (by simp only [List.map_cons,List.map_nil,List.forall_mem_cons];exact ⟨lZ,kV⟩)),?_⟩
  show K (.tuple []) (ad.aX m [(b,aS (fO l c.name))])
  have bp:eN l c=(fO l c.name:List (ak×ak)):=by
   unfold eN;simp_all
  rw [bp] at U
  exact U
 replace dB:c.kind≠5:=(ne_of_beq_false dB)
 refine jF ?_
 refine ⟨(bX m [(b,aS l)]),(ob (m:=m) [(bH, .cells [.str c.name, .str c.data, .str c.to,bl c.kind])] [(b,aS l)] dx (by simp only [List.map_cons,List.map_nil,List.forall_mem_cons];exact ⟨lZ,kV⟩)),?_⟩
 show K (.tuple []) (ad.aX m [(b,aS l)])
 have bp:eN l c=(l:List (ak×ak)):=by
  unfold eN;simp_all
 rw [bp] at U
 exact U
theorem pd (s:cz):(a7 s).1.kept=s.kept∧(a7 s).1.now=s.now∧(a7 s).1.wait=s.wait∧0≤(a7 s).2:=by
 unfold a7;split
 · exact ⟨rfl,rfl,rfl,by simp⟩
 · split
   · exact ⟨rfl,rfl,rfl,by simp⟩
   · exact ⟨rfl,rfl,rfl,by simp⟩
theorem WU (s:cz):s.steps≤(a7 s).1.steps∧(a7 s).1.steps≤s.steps+1:=by
 unfold a7;split
 · exact ⟨by simp;try omega,by simp;try omega⟩
 · split
   · exact ⟨by simp;try omega,by simp;try omega⟩
   · exact ⟨by simp;try omega,by simp;try omega⟩
set_option maxHeartbeats 2000000 in
theorem FC (d aT aG:Nat) (s:cz) (bW:0≤s.steps) (aaJ:s.steps≤4611686018427387904) (aaK:-1≤s.cu) (aaL:s.cu≤9223372036854775807) (m:ad) (K:R→ad→Prop) (U:K (.err 115 (a7 s).2) (bX m [(d,bN aT aG (a7 s).1)])):bn Tryz.prog 163 [cS d] (bX m [(d,bN aT aG s)]) K:=by
 refine oS Tryz.func163 rfl (by decide) (dF rfl) ?_
 show b7 _ _ _ _ [(0,cS d)] (bX m [(d,bN aT aG s)])
 refine dE [] [0] (by decide) ?_
 intro aU aV
 refine ⟨bg,?_⟩
 show aU [(0,cS d)] _
 refine aV _ _ ?_;clear aV aU
 refine ln ?_;intro rp hl
 refine dE [] [0,6] (by decide) ?_
 intro aU aV
 refine ⟨bg,bg,⟨rfl,by decide⟩,?_⟩
 refine ht rfl (v:= .bool s.down) rfl (fg 0 (pc d) rfl) rfl (hb rfl rfl (dF rfl)) rfl ?_
 show aU [(0,cS d),(6, .bool s.down)] _
 refine aV _ _ ?_;clear aV aU
 refine jn rfl rfl (fun I=>?_) (fun I=>?_)
 ·
  replace I:s.down=true:=I
  refine dE [] [2] (by decide) ?_
  intro aU aV
  refine ⟨bg,bg,?_⟩
  show aU [(2, .iface 115 (bl 10))] (bX m [(d,bN aT aG s)])
  refine aV _ _ ?_;clear aV aU
  refine mM 115 [2] ?_
  show b7 _ _ _ _ [(2, .err 115 10)] _
  refine hU ?_
  refine ⟨bg,(bX m [(d,bN aT aG s)]),fun _ _ h=>h,?_⟩
  show K (.err 115 10) _
  have bp:a7 s=((s,10):cz×Int):=by
   obtain ⟨kept,now,wait,cu,down,steps⟩:=s
   simp_all [a7]<;>omega
  rw [bp] at U
  exact U
 replace I:s.down=false:=I
 refine jF ?_
 refine hl _ _ ?_;clear hl
 refine ln ?_;intro yX l0
 refine dE [] [0,12] (by decide) ?_
 intro aU aV
 refine ⟨bg,bg,⟨rfl,by decide⟩,?_⟩
 refine ht rfl (v:=bl s.cu) rfl (fg 0 (pc d) rfl) rfl (hb rfl rfl (dF rfl)) rfl ?_
 refine ⟨bg,?_⟩
 show aU [(0,cS d),(12, .bool (s.cu==0))] (bX m [(d,bN aT aG s)])
 refine aV _ _ ?_;clear aV aU
 refine jn rfl rfl (fun J=>?_) (fun J=>?_)
 ·
  replace J:s.cu=0:=(eq_of_beq J)
  refine dE [] [0] (by decide) ?_
  intro aU aV
  refine ⟨bg,bg,⟨rfl,by decide⟩,?_⟩
  refine r6 rfl 0 (v:= .bool true) (l':=[.map aT, .map aG,iQ (s.wait.map di),bl s.cu, .bool true,bl s.steps]) rfl rfl (pc d) rfl rfl rfl rfl rfl (dF rfl) rfl ?_
  show aU [(0,cS d)] (bX m [(d, .cells [.map aT, .map aG,iQ (s.wait.map di),bl s.cu, .bool true,bl s.steps])])
  refine aV _ _ ?_;clear aV aU
  refine dE [] [] (by decide) ?_
  intro aU aV
  refine ⟨bg,bg,⟨rfl,by decide⟩,?_⟩
  refine r6 rfl 0 (v:=bl (-1)) (l':=[.map aT, .map aG,iQ (s.wait.map di),bl (-1), .bool true,bl s.steps]) rfl rfl (pc d) rfl rfl rfl rfl rfl (dF rfl) rfl ?_
  show aU [] (bX m [(d, .cells [.map aT, .map aG,iQ (s.wait.map di),bl (-1), .bool true,bl s.steps])])
  refine aV _ _ ?_;clear aV aU
  refine dE [] [2] (by decide) ?_
  intro aU aV
  refine ⟨bg,bg,?_⟩
  show aU [(2, .iface 115 (bl 10))] _
  refine aV _ _ ?_;clear aV aU
  refine mM 115 [2] ?_
  show b7 _ _ _ _ [(2, .err 115 10)] _
  refine hU ?_
  refine ⟨bg,(bX m [(d, .cells [.map aT, .map aG,iQ (s.wait.map di),bl (-1), .bool true,bl s.steps])]),fun _ _ h=>h,?_⟩
  show K (.err 115 10) _
  have bp:a7 s=(((⟨s.kept,s.now,s.wait,-1,true,s.steps⟩:cz),10):cz×Int):=by
   obtain ⟨kept,now,wait,cu,down,steps⟩:=s
   simp_all [a7]<;>omega
  rw [bp] at U
  exact U
 replace J:s.cu≠0:=(ne_of_beq_false J)
 refine jF ?_
 refine l0 _ _ ?_;clear l0
 refine ln ?_;intro BA my
 refine dE [] [0,24] (by decide) ?_
 intro aU aV
 refine ⟨bg,bg,⟨rfl,by decide⟩,?_⟩
 refine ht rfl (v:=bl s.cu) rfl (fg 0 (pc d) rfl) rfl (hb rfl rfl (dF rfl)) rfl ?_
 refine ⟨bg,?_⟩
 show aU [(0,cS d),(24, .bool (decide (0<s.cu)))] (bX m [(d,bN aT aG s)])
 refine aV _ _ ?_;clear aV aU
 refine jn rfl rfl (fun ai=>?_) (fun ai=>?_)
 ·
  replace ai:0<s.cu:=(of_decide_eq_true ai)
  refine n9 [] [0] (by decide) ?_
  intro aU aV
  refine ⟨bg,bg,⟨rfl,by decide⟩,?_⟩
  refine ht rfl (v:=bl s.cu) rfl (fg 0 (pc d) rfl) rfl (hb rfl rfl (dF rfl)) rfl ?_
  refine Qf rfl (a:=s.cu) (b:=1) rfl rfl (by omega) (by omega) ?_
  refine ⟨bg,⟨rfl,by decide⟩,?_⟩
  refine r6 rfl 0 (v:=bl (s.cu- 1)) (l':=[.map aT, .map aG,iQ (s.wait.map di),bl (s.cu- 1), .bool s.down,bl s.steps]) rfl rfl (pc d) rfl rfl rfl rfl rfl (dF rfl) rfl ?_
  show aU [(0,cS d)] (bX m [(d, .cells [.map aT, .map aG,iQ (s.wait.map di),bl (s.cu- 1), .bool s.down,bl s.steps])])
  refine aV _ _ ?_;clear aV aU
  refine my _ _ ?_;clear my
  refine dE [] [] (by decide) ?_
  intro aU aV
  refine ⟨bg,bg,⟨rfl,by decide⟩,?_⟩
  refine ht rfl (v:=bl s.steps) rfl (fg 0 (pc d) rfl) rfl (hb rfl rfl (dF rfl)) rfl ?_
  refine zV rfl (a:=s.steps) (b:=1) rfl rfl (by omega) (by omega) ?_
  refine ⟨bg,⟨rfl,by decide⟩,?_⟩
  refine r6 rfl 0 (v:=bl (s.steps+1)) (l':=[.map aT, .map aG,iQ (s.wait.map di),bl (s.cu- 1), .bool s.down,bl (s.steps+1)]) rfl rfl (pc d) rfl rfl rfl rfl rfl (dF rfl) rfl ?_
  show aU [] (bX m [(d, .cells [.map aT, .map aG,iQ (s.wait.map di),bl (s.cu- 1), .bool s.down,bl (s.steps+1)])])
  refine aV _ _ ?_;clear aV aU
  refine dE [] [2] (by decide) ?_
  intro aU aV
  refine ⟨bg,?_⟩
  show aU [(2, .nilIface)] _
  refine aV _ _ ?_;clear aV aU
  refine mM 115 [2] ?_
  show b7 _ _ _ _ [(2, .err 115 0)] _
  refine hU ?_
  refine ⟨bg,(bX m [(d, .cells [.map aT, .map aG,iQ (s.wait.map di),bl (s.cu- 1), .bool s.down,bl (s.steps+1)])]),fun _ _ h=>h,?_⟩
  show K (.err 115 0) _
  have bp:a7 s=(((⟨s.kept,s.now,s.wait,s.cu- 1,s.down,s.steps+1⟩:cz),0):cz×Int):=by
   obtain ⟨kept,now,wait,cu,down,steps⟩:=s
   simp_all [a7]<;>omega
  rw [bp] at U
  exact U
 replace ai:s.cu≤0:=(Int.not_lt.1 (of_decide_eq_false ai))
 refine jF ?_
 refine my _ _ ?_;clear my
 refine dE [] [] (by decide) ?_
 intro aU aV
 refine ⟨bg,bg,⟨rfl,by decide⟩,?_⟩
 refine ht rfl (v:=bl s.steps) rfl (fg 0 (pc d) rfl) rfl (hb rfl rfl (dF rfl)) rfl ?_
 refine zV rfl (a:=s.steps) (b:=1) rfl rfl (by omega) (by omega) ?_
 refine ⟨bg,⟨rfl,by decide⟩,?_⟩
 refine r6 rfl 0 (v:=bl (s.steps+1)) (l':=[.map aT, .map aG,iQ (s.wait.map di),bl s.cu, .bool s.down,bl (s.steps+1)]) rfl rfl (pc d) rfl rfl rfl rfl rfl (dF rfl) rfl ?_
 show aU [] (bX m [(d, .cells [.map aT, .map aG,iQ (s.wait.map di),bl s.cu, .bool s.down,bl (s.steps+1)])])
 refine aV _ _ ?_;clear aV aU
 refine dE [] [2] (by decide) ?_
 intro aU aV
 refine ⟨bg,?_⟩
 show aU [(2, .nilIface)] _
 refine aV _ _ ?_;clear aV aU
 refine mM 115 [2] ?_
 show b7 _ _ _ _ [(2, .err 115 0)] _
 refine hU ?_
 refine ⟨bg,(bX m [(d, .cells [.map aT, .map aG,iQ (s.wait.map di),bl s.cu, .bool s.down,bl (s.steps+1)])]),fun _ _ h=>h,?_⟩
 show K (.err 115 0) _
 have bp:a7 s=(((⟨s.kept,s.now,s.wait,s.cu,s.down,s.steps+1⟩:cz),0):cz×Int):=by
  obtain ⟨kept,now,wait,cu,down,steps⟩:=s
  simp_all [a7]<;>omega
 rw [bp] at U
 exact U
structure hn (N:Nat) (s:cz):Prop where
 uh:0≤s.steps
 nz:s.steps≤N
 ui:-1≤s.cu
 uj:s.cu≤9223372036854775807
 wo:s.kept.length+s.wait.length≤N
 aT:∀p∈s.kept,p.2.length+4000*s.wait.length≤4000*N
 hc:∀c∈s.wait,c.data.length≤4000
 nl:s.now.length≤N
 aG:∀p∈s.now,p.2.length≤4000*N
theorem FD {l:List (ak×ak)} {k v:ak} {p:ak×ak} (h:p∈dJ l k v):p∈l∨p=(k,v):=by
 induction l with
 |nil=>simp [dJ] at h;exact .inr h
 |cons q r aQ=>
  obtain ⟨a,b⟩:=q
  simp only [dJ] at h
  split at h
  · rcases List.mem_cons.1 h with h|h
    · exact .inr h
    · exact .inl (by simp [h])
  · rcases List.mem_cons.1 h with h|h
    · exact .inl (by simp [h])
    · rcases aQ h with h|h
      · exact .inl (by simp [h])
      · exact .inr h
theorem LD {l:List (ak×ak)} {k:ak} {p:ak×ak} (h:p∈fO l k):p∈l:=by
 induction l with
 |nil=>simp [fO] at h
 |cons q r aQ=>
  obtain ⟨a,b⟩:=q
  simp only [fO] at h
  split at h
  · simp [h]
  · rcases List.mem_cons.1 h with h|h
    · simp [h]
    · simp [aQ h]
theorem LF (l:List (ak×ak)) (c:e3):(eN l c).length≤l.length+1:=by
 unfold eN
 split
 · exact qV _ _ _
 · split
   · exact qV _ _ _
   · split
     · have I:=HL (dJ l c.to ((cn l c.name).getD [])) c.name
       have J:=qV l c.to ((cn l c.name).getD [])
       omega
     · split
       · have:=HL l c.name;omega
       · omega
theorem LG {l:List (ak×ak)} {c:e3} {B:Nat} (h:∀p∈l,p.2.length≤B) (ag:c.data.length≤4000):∀p∈eN l c,p.2.length≤B+4000:=by
 intro p aB
 have a8:=LB (k:=c.name) h
 unfold eN at aB
 split at aB
 · rcases FD aB with aB|rfl
   · have:=h p aB;omega
   · simp;omega
 · split at aB
   · rcases FD aB with aB|rfl
     · have:=h p aB;omega
     · simp;omega
   · split at aB
     · rcases FD (LD aB) with aB|rfl
       · have:=h p aB;omega
       · simp;omega
     · split at aB
       · have:=h p (LD aB);omega
       · have:=h p aB;omega
def nP (l:List (ak×ak)) (cs:List e3):List (ak×ak):=cs.foldl eN l
theorem LH {cs:List e3} (ag:∀c∈cs,c.data.length≤4000):∀{l:List (ak×ak)} {B:Nat},(∀p∈l,p.2.length≤B)→(nP l cs).length≤l.length+cs.length∧∀p∈nP l cs,p.2.length≤B+4000*cs.length:=by
 induction cs with
 |nil=>intro l B h;exact ⟨by simp [nP],fun p aB=>by have:=h p aB;simp;omega⟩
 |cons c cs aQ=>
  intro l B h
  have I:=LF l c
  have J:=aQ (fun c hh=>ag c (by simp [hh])) (LG h (ag c (by simp)))
  have e:nP l (c::cs)=nP (eN l c) cs:=rfl
  rw [e,List.length_cons]
  exact ⟨by omega,fun p aB=>by have:=J.2 p aB;omega⟩
theorem hn.step {N:Nat} {s:cz} (h:hn N s):hn (N+1) (a7 s).1:=by
 have k:=pd s
 have q:=WU s
 have aW:-1≤(a7 s).1.cu∧(a7 s).1.cu≤9223372036854775807:=by
  have:=h.ui;have:=h.uj
  unfold a7;split
  · exact ⟨by assumption,by assumption⟩
  · split
    · exact ⟨by simp,by simp⟩
    · simp only;split<;>omega
 have:=h.uh;have:=h.nz;have:=h.wo
 refine ⟨by omega,by omega,aW.1,aW.2,by rw [k.1,k.2.2.1];omega,fun p aB=>?_,fun c ag=>?_,?_,fun p aB=>?_⟩
 · rw [k.1] at aB;rw [k.2.2.1];have:=h.aT p aB;omega
 · rw [k.2.2.1] at ag;exact h.hc c ag
 · rw [k.2.1];have:=h.nl;omega
 · rw [k.2.1] at aB;have:=h.aG p aB;omega
theorem hn.do {N:Nat} {s:cz} {c:e3} (h:hn N s) (ag:c.data.length≤4000):hn (N+1) (gg s c).1:=by
 unfold gg
 split
 · exact h.step
 · have k:=pd s
   have g:=h.step
   have:=h.wo;have:=h.nl;have:=LF s.now c
   refine ⟨g.uh,g.nz,g.ui,g.uj,by rw [k.1];simp;omega,fun p aB=>?_,fun hs hh=>?_,by simp;omega,fun p aB=>?_⟩
   · rw [k.1] at aB;have:=h.aT p aB;simp;omega
   · rcases List.mem_append.1 hh with hh|hh
     · exact h.hc hs hh
     · simp at hh;subst hh;exact ag
   · have:=LG h.aG ag p aB;omega
def ej (s:cz):cz×Int:=
 if (a7 s).2≠0 then a7 s else ({(a7 s).1 with kept:=nP s.kept s.wait,wait:=[]},0)
theorem hn.sync {N:Nat} {s:cz} (h:hn N s):hn (N+1) (ej s).1:=by
 unfold ej
 split
 · exact h.step
 · have k:=pd s
   have g:=h.step
   have:=h.wo;have:=h.nl
   have a:=LH h.hc (l:=s.kept) (B:=4000*N- 4000*s.wait.length) (fun p aB=>by have:=h.aT p aB;omega)
   refine ⟨g.uh,g.nz,g.ui,g.uj,by simp;omega,fun p aB=>?_,by simp,by rw [k.2.1];omega,fun p aB=>?_⟩
   · have:=a.2 p aB;simp;omega
   · rw [k.2.1] at aB;have:=h.aG p aB;omega
theorem hn.mono {N M:Nat} {s:cz} (h:hn N s) (hm:N≤M):hn M s:=
 ⟨h.uh,by have:=h.nz;omega,h.ui,h.uj,by have:=h.wo;omega,fun p aB=>by have:=h.aT p aB;omega,h.hc,by have:=h.nl;omega,fun p aB=>by have:=h.aG p aB;omega⟩
end Go.Proofs
end
