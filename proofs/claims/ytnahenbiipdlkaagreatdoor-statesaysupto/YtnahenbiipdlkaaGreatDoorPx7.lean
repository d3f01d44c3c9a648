import Derived.Test.YtnahenbiipdlkaaGreatDoorLz4
import Derived.Test.YtnahenbiipdlkaaGreatDoorWzG
import Derived.Test.YtnahenbiipdlkaaGreatDoorSv4
section
namespace Go.Proofs
open Go Go.bh Go.bS
set_option maxRecDepth 100000
theorem KI (s:List UInt8) (a:Int) (aq:0≤a) (k:Nat):(s.drop a.toNat).getD k 0=aa s (a+k):=by
 obtain ⟨n,rfl⟩:=Int.eq_ofNat_of_zero_le aq
 have:((n:Int)+(k:Int))=((n+k:Nat):Int):=by simp
 rw [this,yL]
 simp [List.getD_eq_getElem?_getD]
theorem KJ {c:UInt8} {n:Nat} (h:(c.toNat:Int)=n) (aL:n<256):c=UInt8.ofNat n:=by
 apply UInt8.toNat_inj.1
 simp [Nat.mod_eq_of_lt aL];omega
theorem Fg (t:List UInt8):Lib.hasPrefix t [61,61]=true↔2≤t.length∧t.getD 0 0=61∧t.getD 1 0=61:=by
 match t with
 |[]=>simp [Lib.hasPrefix]
 |[x]=>simp [Lib.hasPrefix]
 |x::y::r=>simp [Lib.hasPrefix];try exact ⟨fun h=>⟨h.1.symm,h.2.symm⟩,fun h=>⟨h.1.symm,h.2.symm⟩⟩
theorem KK (s:List UInt8) (a:Int) (aq:0≤a) (aH:a<s.length):sub s a s.length=s.drop a.toNat:=by
 unfold sub
 rw [List.take_of_length_le]
 simp;omega
theorem Vc {s:List UInt8} {a:Int} (aq:0≤a) (aH:a<s.length) (I:¬lU (aa s a)=true) (J:¬fo (aa s a)=true) (ai:((aa s a).toNat:Int)≠34):
 gm s a=if j6 (sub s a s.length)=0 then (0,[],0,4) else (4,sub s a (a+j6 (sub s a s.length)),a+j6 (sub s a s.length),0):=by
 rw [gm,if_neg I,if_neg J,if_neg ai,KK s a aq aH]
 have bp:=KI s a aq 0
 have ax:=KI s a aq 1
 have z0:a+((0:Nat):Int)=a:=by omega
 have kz:a+((1:Nat):Int)=a+1:=by omega
 rw [z0] at bp
 rw [kz] at ax
 have ar:(s.drop a.toNat).length=s.length- a.toNat:=by simp
 have aY:=drop_cons (s:=s) (i:=a.toNat) (by omega)
 by_cases aB:Lib.hasPrefix (s.drop a.toNat) [61,61]=true
 · have aO:=(Fg _).1 aB
   rw [bp,ax] at aO
   rw [j6,if_pos aB,if_pos ⟨by rw [aO.2.1];rfl,by omega,by rw [aO.2.2];rfl⟩]
   have r3:=drop_cons (s:=s) (i:=a.toNat+1) (by omega)
   have g0:s.getD a.toNat 0=61:=aO.2.1
   have g1:s.getD (a.toNat+1) 0=61:=by
    have:=aO.2.2
    rw [aa] at this
    have e:(a+1).toNat=a.toNat+1:=by omega
    rw [e] at this;exact this
   have:sub s a (a+2)=[61,61]:=by
    unfold sub
    rw [aY,r3,g0,g1]
    have:(a+2- a).toNat=2:=by omega
    rw [this];rfl
   simp [this]
 · have aL:¬(((aa s a).toNat:Int)=61∧a+1<s.length∧((aa s (a+1)).toNat:Int)=61):=by
    intro ba
    apply aB
    rw [Fg,bp,ax]
    refine ⟨by omega,?_,?_⟩
    · exact KJ (n:=61) ba.1 (by omega)
    · exact KJ (n:=61) ba.2.2 (by omega)
   rw [if_neg aL,j6,if_neg aB,bp]
   by_cases ab:0≤Lib.indexByte oo (aa s a)
   · simp [ab]
   · simp [ab]
theorem KL {s:List UInt8} {a:Int} (h:lU (aa s a)=true):gm s a=if 12<eK iu s a- a then (0,[],0,1) else (1,sub s a (eK iu s a),eK iu s a,0):=by rw [gm,if_pos h]
theorem KM {s:List UInt8} {a:Int} (I:¬lU (aa s a)=true) (h:fo (aa s a)=true):gm s a=if 10<eK fo s a- a∨(((aa s a).toNat:Int)=48∧a+1<eK fo s a) then (0,[],0,1) else (2,sub s a (eK fo s a),eK fo s a,0):=by rw [gm,if_neg I,if_pos h]
theorem KN {s:List UInt8} {a:Int} (h:((aa s a).toNat:Int)=34):gm s a=(if (gB s (a+1) []).1=0 then 3 else 0,(gB s (a+1) []).2.1,(gB s (a+1) []).2.2,(gB s (a+1) []).1):=by
 rw [gm,if_neg (fun ae=>by have:=Fe.1 ae;omega),if_neg (fun ae=>by have:=yN.1 ae;omega),if_pos h]
theorem Vd (t:List UInt8):0≤j6 t∧j6 t≤2:=by unfold j6;split<;>(try split)<;>simp
theorem Ve {s:List UInt8} {a:Int} (aq:0≤a) (aH:a<s.length):a+j6 (sub s a s.length)≤s.length:=by
 rw [KK s a aq aH]
 unfold j6
 split
 · next h=>have:=((Fg _).1 h).1;simp at this;omega
 · split<;>omega
theorem Bo {n:Nat} {s:List UInt8} {a:Int} {out:List Tok} {k:Int} {t:List UInt8} {e:Int} (h:a<s.length) (ag:¬(((aa s a).toNat:Int)=32∨((aa s a).toNat:Int)=10)) (aN:((aa s a).toNat:Int)≠35) (he:gm s a=(k,t,e,0)):
 gX (n+1) s a out=gX n s e (out++[(k,a,t)]):=by rw [KF h ag aN (by rw [he]),he]
theorem Bp {n:Nat} {s:List UInt8} {a:Int} {out:List Tok} {k:Int} {t:List UInt8} {e f:Int} (h:a<s.length) (ag:¬(((aa s a).toNat:Int)=32∨((aa s a).toNat:Int)=10)) (aN:((aa s a).toNat:Int)≠35) (he:gm s a=(k,t,e,f)) (aW:f≠0):
 gX (n+1) s a out=([],a,f):=by rw [U9 h ag aN (by rw [he];exact aW),he]
theorem Fh (s:ak) (a:Int) (g:FuncId) (f:UInt8→Bool) (aq:0≤a) (aH:a≤s.length) (al:s.length≤140737488355328) (aW:∀c m,uL Tryz.prog g [.int .u8 (c:UInt8).toNat] m (.bool (f c))) (m:ad) (K:R→ad→Prop) (U:K (.int .i64 (eK f s a)) m):bn Tryz.prog 119 [.str s, .int .i64 a, .func (.func g) [] []] m K:=by
 refine enter (c:=cP [] [] [1] [] [] []) (vs:=[.aK (.str s), .aK (.int .i64 a), .fn g [] []]) (L:=[]) (m:=m) false cc Tryz.mixed Tryz.func119 rfl (k:=3) (by show cJ [] _ _ _=true;decide+kernel) rfl (Good.nil m) ?_
 refine aZ ?_
 refine ev (σ:=Int) [] [0,1,2] 0 (fun at_=>([(0,bf s),(1,aw at_),(2, .fn g [] [])],[],m)) (fun at_=>0≤at_∧at_≤s.length∧eK f s a=eK f s at_) (fun at_=>s.length- at_.toNat) (a) ⟨rfl,rfl⟩ ?_ ?_
 · try dsimp only
   exact ⟨by omega,by omega,rfl⟩
 rintro at_ aM
 refine aZ ?_
 refine cx [0,1,2] 17 ((decide (at_<(s.length:Int)))&&(f (aa s at_))) ?_ ?_
 · repeat' first
    |exact ⟨⟨_,rfl,by grind [bM.val]⟩,rfl⟩
    |refine an (fun _=>?_) (fun _=>?_)
    |refine an (by omega) ?_
    |refine ct (fun _=>aW (aa s at_)) rfl ?_
 refine an (fun I=>?_) (fun I=>?_)
 · replace I:(at_<(s.length:Int))∧(f (aa s at_)=true):=⟨(of_decide_eq_true (e4 I)),(fY I)⟩
   refine an (by omega) ?_
   refine ⟨(at_+1),⟨rfl,rfl⟩,?_,?_⟩
   · try dsimp only
     exact ⟨by omega,by omega,by rw [aM.2.2];exact vU aM.1 I.1 I.2⟩
   try dsimp only
   omega
 replace I:((s.length:Int)≤at_)∨(f (aa s at_)=false):=((fZ I).imp (fun q=>(Int.not_lt.1 (of_decide_eq_false q))) (fun q=>q))
 refine bt rfl fun _=>e9 U ?_
 show R.int .i64 (eK f s a)=R.int .i64 at_
 refine congrArg (R.int .i64) ?_
 rw [aM.2.2];exact UQ aM.1 (fun ar=>by rcases I with I|I;(omega);exact I)
set_option maxHeartbeats 2000000 in
theorem Vf (s:ak) (al:s.length≤16777216) (m:ad) (K:R→ad→Prop) (U:K (.tuple [.slice false ((eE s).1.map cl), .int .i64 (eE s).2.1, .err 115 (eE s).2.2]) m):bn Tryz.prog 64 [.str s] m K:=by
 refine bn.pl ?_
 refine enter (c:=cP [] [] [12,24] [] [] []) (vs:=[.aK (.str s)]) (L:=[]) (m:=m) true cc Tryz.mixed Tryz.func64 rfl (k:=1) (by show cJ [] _ _ _=true;decide+kernel) rfl (Good.nil m) ?_
 refine aZ ?_
 refine an (fun I=>?_) (fun I=>?_)
 · refine bt rfl fun _=>?_
   show K (.tuple [.slice false [], .int .i64 0, .err 115 2]) m
   refine e9 U ?_
   show R.tuple [.slice false ((eE s).1.map cl), .int .i64 (eE s).2.1, .err 115 (eE s).2.2]=R.tuple [.slice false [], .int .i64 0, .err 115 2]
   rw [eE,if_pos I];rfl
 have c1:eE s=gX (s.length+1) s 0 []:=by rw [eE,if_neg (by omega)]
 refine aZ ?_
 refine ev (σ:=(List Tok)×Int) [] [0,5,6] 0 (fun ⟨out,at_⟩=>([(0,bf s),(5, .own (out.map cl)),(6,aw at_)],[],m)) (fun ⟨out,at_⟩=>0≤at_∧at_≤s.length∧(out.length:Int)≤at_∧∃n:Nat,s.length- at_<n∧gX (s.length+1) s 0 []=gX n s at_ out) (fun ⟨out,at_⟩=>s.length- at_.toNat) ([],0) ⟨rfl,rfl⟩ ?_ ?_
 · try dsimp only
   exact ⟨by omega,by omega,by simp,s.length+1,by omega,rfl⟩
 rintro ⟨out,at_⟩ aM
 dsimp only at aM
 obtain ⟨n,aL,ao⟩:=aM.2.2.2
 refine aZ ?_
 refine an (fun J=>?_) (fun J=>?_)
 · obtain ⟨n,rfl⟩:∃k,n=k+1:=⟨n- 1,by omega⟩
   refine an (by omega) ?_
   refine cx [0,5,6,7] 47 ((((aa s at_).toNat:Int)==32)||(((aa s at_).toNat:Int)==10)) ?_ ?_
   · repeat' first
      |exact ⟨⟨_,rfl,by grind [bM.val]⟩,rfl⟩
      |refine an (fun _=>?_) (fun _=>?_)
   refine an (fun ai=>?_) (fun ai=>?_)
   · replace ai:(((aa s at_).toNat:Int)=32)∨(((aa s at_).toNat:Int)=10):=((da ai).imp (fun q=>(eq_of_beq q)) (fun q=>(eq_of_beq q)))
     refine an (by omega) ?_
     refine ⟨(out,at_+1),⟨rfl,rfl⟩,?_,?_⟩
     · try dsimp only
       exact ⟨by omega,by omega,by omega,n,by omega,by rw [ao,KE J ai]⟩
     try dsimp only
     omega
   replace ai:(((aa s at_).toNat:Int)≠32)∧(((aa s at_).toNat:Int)≠10):=⟨(ne_of_beq_false (bZ ai)),(ne_of_beq_false (c8 ai))⟩
   refine an (fun aC=>?_) (fun aC=>?_)
   · have au:=yM rq (s:=s) aM.1 (by omega)
     have a8:at_+1≤eK rq s at_:=by rw [vU aM.1 J (by simp [rq];omega)];exact vV _ (by omega)
     refine ct (fun _=>Fh s at_ 120 rq (by omega) (by omega) (by omega) (fun c m K U=>UR c m K U)) rfl ?_
     refine ⟨(out,eK rq s at_),⟨rfl,rfl⟩,?_,?_⟩
     · try dsimp only
       exact ⟨by omega,by omega,by omega,n,by omega,by rw [ao,U8 J aC]⟩
     try dsimp only
     omega
   refine ct (fun _=>KB (aa s at_)) rfl ?_
   refine an (fun aN=>?_) (fun aN=>?_)
   · have au:=yM iu (s:=s) aM.1 (by omega)
     have a8:at_+1≤eK iu s at_:=by rw [vU aM.1 J (by simp [iu,aN])];exact vV _ (by omega)
     have ax:=KL aN
     refine ct (fun _=>Fh s at_ 122 iu (by omega) (by omega) (by omega) (fun c m K U=>US c m K U)) rfl ?_
     refine aZ ?_
     refine an (by omega) ?_
     refine an (fun bE=>?_) (fun bE=>?_)
     · refine bt rfl fun _=>?_
       show K (.tuple [.slice false [], .int .i64 at_, .err 115 1]) m
       refine e9 U ?_
       show R.tuple [.slice false ((eE s).1.map cl), .int .i64 (eE s).2.1, .err 115 (eE s).2.2]=R.tuple [.slice false [], .int .i64 at_, .err 115 1]
       rw [c1,ao,Bp J (by omega) aC (ax.trans (if_pos bE)) (by omega)];rfl
     refine an (by dsimp only [Option.getD_some,Option.getD_none];omega) ?_
     refine ap cl out ([(⟨1,at_,sub s at_ (eK iu s at_)⟩:Tok)]:List Tok) rfl rfl (fun _=>⟨rfl,rfl⟩) (by (simp only [List.length_append,List.length_cons,List.length_nil];omega)) ?_
     refine ⟨(out++([(⟨1,at_,sub s at_ (eK iu s at_)⟩:Tok)]:List Tok),eK iu s at_),⟨rfl,rfl⟩,?_,?_⟩
     · try dsimp only
       exact ⟨by omega,by omega,by simp;omega,n,by omega,by rw [ao,Bo J (by omega) aC (ax.trans (if_neg (by omega)))]⟩
     try dsimp only
     omega
   refine ct (fun _=>Ff (aa s at_)) rfl ?_
   refine an (fun dk=>?_) (fun dk=>?_)
   · have au:=yM fo (s:=s) aM.1 (by omega)
     have a8:at_+1≤eK fo s at_:=by rw [vU aM.1 J dk];exact vV _ (by omega)
     have ax:=KM (by rw [aN];simp) dk
     refine ct (fun _=>Fh s at_ 123 fo (by omega) (by omega) (by omega) (fun c m K U=>Ff c m K U)) rfl ?_
     refine aZ ?_
     refine cx [0,5,6,9] 103 ((decide (10<(eK fo s at_)- at_))||((((aa s at_).toNat:Int)==48)&&(decide (1<(eK fo s at_)- at_)))) ?_ ?_
     · repeat' first
        |exact ⟨⟨_,rfl,by grind [bM.val]⟩,rfl⟩
        |refine an (fun _=>?_) (fun _=>?_)
        |refine an (by omega) ?_
     refine an (fun cW=>?_) (fun cW=>?_)
     · replace cW:(10<(eK fo s at_)- at_)∨((((aa s at_).toNat:Int)=48)∧(1<(eK fo s at_)- at_)):=((da cW).imp (fun q=>(of_decide_eq_true q)) (fun q=>⟨(eq_of_beq (e4 q)),(of_decide_eq_true (fY q))⟩))
       refine bt rfl fun _=>?_
       show K (.tuple [.slice false [], .int .i64 at_, .err 115 1]) m
       refine e9 U ?_
       show R.tuple [.slice false ((eE s).1.map cl), .int .i64 (eE s).2.1, .err 115 (eE s).2.2]=R.tuple [.slice false [], .int .i64 at_, .err 115 1]
       rw [c1,ao,Bp J (by omega) aC (ax.trans (if_pos (by omega))) (by omega)];rfl
     replace cW:((eK fo s at_)- at_≤10)∧((((aa s at_).toNat:Int)≠48)∨((eK fo s at_)- at_≤1)):=⟨(Int.not_lt.1 (of_decide_eq_false (bZ cW))),((fZ (c8 cW)).imp (fun q=>(ne_of_beq_false q)) (fun q=>(Int.not_lt.1 (of_decide_eq_false q))))⟩
     refine an (by dsimp only [Option.getD_some,Option.getD_none];omega) ?_
     refine ap cl out ([(⟨2,at_,sub s at_ (eK fo s at_)⟩:Tok)]:List Tok) rfl rfl (fun _=>⟨rfl,rfl⟩) (by (simp only [List.length_append,List.length_cons,List.length_nil];omega)) ?_
     refine ⟨(out++([(⟨2,at_,sub s at_ (eK fo s at_)⟩:Tok)]:List Tok),eK fo s at_),⟨rfl,rfl⟩,?_,?_⟩
     · try dsimp only
       exact ⟨by omega,by omega,by simp;omega,n,by omega,by rw [ao,Bo J (by omega) aC (ax.trans (if_neg (by omega)))]⟩
     try dsimp only
     omega
   refine an (fun dB=>?_) (fun dB=>?_)
   · have aO:=KH s (at_+1) (by omega) []
     have ax:=KN dB
     refine ct (fun _=>U7 s at_ (by omega) (by omega) (by omega)) rfl ?_
     refine aZ ?_
     refine an (fun dV=>?_) (fun dV=>?_)
     · have KO:=aO.2 dV
       have aI:gm s at_=(3,(gB s (at_+1) []).2.1,(gB s (at_+1) []).2.2,0):=by rw [ax,dV];rfl
       refine ap cl out ([(⟨3,at_,(gB s (at_+1) []).2.1⟩:Tok)]:List Tok) rfl rfl (fun _=>⟨rfl,rfl⟩) (by (simp only [List.length_append,List.length_cons,List.length_nil];omega)) ?_
       refine ⟨(out++([(⟨3,at_,(gB s (at_+1) []).2.1⟩:Tok)]:List Tok),(gB s (at_+1) []).2.2),⟨rfl,rfl⟩,?_,?_⟩
       · try dsimp only
         exact ⟨by omega,by omega,by simp;omega,n,by omega,by rw [ao,Bo J (by omega) aC aI]⟩
       try dsimp only
       omega
     refine bt rfl fun _=>?_
     show K (.tuple [.slice false [], .int .i64 at_, .err 115 ((gB s (at_+1) []).1)]) m
     refine e9 U ?_
     show R.tuple [.slice false ((eE s).1.map cl), .int .i64 (eE s).2.1, .err 115 (eE s).2.2]=R.tuple [.slice false [], .int .i64 at_, .err 115 ((gB s (at_+1) []).1)]
     rw [c1,ao,Bp J (by omega) aC ax dV];rfl
   have ax:=Vc aM.1 J (by rw [aN];simp) (by rw [dk];simp) dB
   have aam:=Vd (sub s at_ s.length)
   refine an (by dsimp only [Option.getD_some,Option.getD_none];omega) ?_
   refine ct (fun _=>UT (sub s at_ (s.length:Int)) (by simp [sub];omega)) rfl ?_
   refine aZ ?_
   refine an (fun fj=>?_) (fun fj=>?_)
   · refine bt rfl fun _=>?_
     show K (.tuple [.slice false [], .int .i64 at_, .err 115 4]) m
     refine e9 U ?_
     show R.tuple [.slice false ((eE s).1.map cl), .int .i64 (eE s).2.1, .err 115 (eE s).2.2]=R.tuple [.slice false [], .int .i64 at_, .err 115 4]
     rw [c1,ao,Bp J (by omega) aC (ax.trans (if_pos fj)) (by omega)];rfl
   have TI:at_+j6 (sub s at_ s.length)≤s.length:=by
    rcases aM.2.1 with ba
    exact Ve aM.1 J
   refine an (by omega) ?_
   refine an (by dsimp only [Option.getD_some,Option.getD_none];omega) ?_
   refine ap cl out ([(⟨4,at_,sub s at_ (at_+(j6 (sub s at_ (s.length:Int))))⟩:Tok)]:List Tok) rfl rfl (fun _=>⟨rfl,rfl⟩) (by (simp only [List.length_append,List.length_cons,List.length_nil];omega)) ?_
   refine an (by omega) ?_
   refine ⟨(out++([(⟨4,at_,sub s at_ (at_+(j6 (sub s at_ (s.length:Int))))⟩:Tok)]:List Tok),at_+(j6 (sub s at_ (s.length:Int)))),⟨rfl,rfl⟩,?_,?_⟩
   · try dsimp only
     exact ⟨by omega,by omega,by simp;omega,n,by omega,by rw [ao,Bo J (by omega) aC (ax.trans (if_neg fj))]⟩
   try dsimp only
   omega
 obtain ⟨n,rfl⟩:∃k,n=k+1:=⟨n- 1,by omega⟩
 refine bt rfl fun _=>?_
 show K (.tuple [.slice false (out.map cl), .int .i64 0, .err 115 0]) m
 refine e9 U ?_
 show R.tuple [.slice false ((eE s).1.map cl), .int .i64 (eE s).2.1, .err 115 (eE s).2.2]=R.tuple [.slice false (out.map cl), .int .i64 0, .err 115 0]
 rw [c1,ao,KD J]
end Go.Proofs
end
section
namespace Go.Proofs
open Go Go.bh Go.bS
set_option maxRecDepth 100000
theorem Vg (n:Nat) (s:List UInt8) (a:Int) (out:List Tok):0≤(gX n s a out).2.2:=by
 fun_induction gX n s a out<;>simp_all [Va]
theorem Vh (s:List UInt8):0≤(eE s).2.2:=by
 unfold eE;split
 · simp
 · exact Vg _ _ _ _
theorem Vi (n:Nat) (s:List UInt8) (a:Int) (out:List Tok):(gX n s a out).1.length≤out.length+n:=by
 fun_induction gX n s a out<;>simp_all<;>omega
theorem Vj (s:List UInt8):(eE s).1.length≤4001:=by
 unfold eE;split
 · simp
 · have:=Vi (s.length+1) s 0 []
   simp at this;omega
structure db (α:Type) where
 f:Int
 p:Int
 x:α
 a:Int
def db.ok {α:Type} (x:α) (a:Int):db α:=⟨0,0,x,a⟩
def db.bad {α:Type} [Inhabited α] (f p:Int):db α:=⟨f,p,default,0⟩
def db.bind {α β:Type} [Inhabited β] (p:db α) (g:α→Int→db β):db β:=if p.f=0 then g p.x p.a else .bad p.f p.p
structure Vk {α:Type} (p:db α) (x:α) (a e q:Int):Prop where
 f:e=p.f
 y:e=0→x=p.x∧a=p.a
 z:e≠0→q=p.p
structure bY (l:List Tok) {α:Type} (p:db α) (x:α) (a e q cw b9 dA:Int):Prop where
 ok:e=0→Vk p x cw b9 dA
 st:e≠0→cw=a∧b9=e∧dA=q
 bD:a≤cw
 ab:cw≤l.length
 dd:0≤b9
 gt:b9=0→a<cw
section
variable {l:List Tok} {α β:Type} {p:db α} {x:α} {a e q dt ax cX a2 aI cI:Int}
theorem bY.bind [Inhabited β] {g:α→Int→db β} {y:β} (k2:bY l p x a e q dt ax cX) (o5:bY l (g x dt) y dt ax cX a2 aI cI):bY l (p.bind g) y a e q a2 aI cI:=by
 refine ⟨fun he=>?_,fun he=>?_,Int.le_trans k2.bD o5.bD,o5.ab,o5.dd,fun h=>?_⟩
 · have I:=k2.ok he
   by_cases aA:ax=0
   · obtain ⟨rfl,rfl⟩:=I.y aA
     have:=o5.ok aA
     rw [db.bind,if_pos (by rw [←I.f];exact aA)];exact this
   · obtain ⟨_,rfl,rfl⟩:=o5.st aA
     rw [db.bind,if_neg (by rw [←I.f];exact aA)]
     exact ⟨I.f,fun h=>absurd h aA,fun _=>I.z aA⟩
 · obtain ⟨rfl,rfl,rfl⟩:=k2.st he
   exact o5.st he
 · by_cases aA:ax=0
   · have:=k2.gt aA;have:=o5.bD;omega
   · obtain ⟨_,rfl,_⟩:=o5.st aA;exact absurd h aA
theorem bY.map [Inhabited β] (f:α→β) (k2:bY l p x a e q dt ax cX):bY l (p.bind fun s a=> .ok (f s) a) (f x) a e q dt ax cX:=by
 refine ⟨fun he=>?_,k2.st,k2.bD,k2.ab,k2.dd,k2.gt⟩
 have I:=k2.ok he
 by_cases aA:ax=0
 · obtain ⟨rfl,rfl⟩:=I.y aA
   rw [db.bind,if_pos (by rw [←I.f];exact aA)]
   exact ⟨aA,fun _=>⟨rfl,rfl⟩,fun h=>absurd aA h⟩
 · rw [db.bind,if_neg (by rw [←I.f];exact aA)]
   exact ⟨I.f,fun h=>absurd h aA,fun _=>I.z aA⟩
theorem bY.bad [Inhabited α] {f s:Int} (x:α) (aq:a≤l.length) (I:e=0→aI=f∧cI=s) (J:e≠0→aI=e∧cI=q) (ai:0<aI):bY l (.bad f s:db α) x a e q a aI cI:=
 ⟨fun he=>⟨(I he).1,fun h=>by omega,fun _=>(I he).2⟩,fun he=>⟨rfl,J he⟩,Int.le_refl _,aq,by omega,fun h=>by omega⟩
theorem bY.one {x:α} (aq:a<l.length) (he:e=0):bY l (.ok x (a+1):db α) x a e q (a+1) e q:=
 ⟨fun he=>⟨he,fun _=>⟨rfl,rfl⟩,fun h=>absurd he h⟩,fun h=>absurd he h,by omega,by omega,by omega,fun _=>by omega⟩
theorem bY.from {b:Int} (he:e=0) (ae:b≤a) (k2:bY l p x a e q dt ax cX):bY l p x b e q dt ax cX:=
 ⟨k2.ok,fun h=>absurd he h,Int.le_trans ae k2.bD,k2.ab,k2.dd,fun h=>by have:=k2.gt h;omega⟩
end
abbrev bP (l:List Tok) (n a e q:Int):bz:= .cells [bj (l.map cl),aw a,aw n, .aK (.err 115 e),aw q]
def fp (l:List Tok) (n a:Int):Int:=if a<l.length then (aa l a).2.1 else n
def cT (l:List Tok) (k:Int) (s:ak) (a:Int):Bool:=decide (a<l.length)&&((aa l a).1==k)&&((s==[])||((aa l a).2.2==s))
def qx (l:List Tok) (k:Int) (s:ak) (a e:Int):Bool:=(e==0)&&cT l k s a
theorem kG {l:List Tok} {k:Int} {s:ak} {a:Int} (h:cT l k s a=true):a<l.length:=by
 simp only [cT,Bool.and_eq_true,decide_eq_true_eq] at h;exact h.1.1
theorem yP {l:List Tok} {k:Int} {s:ak} {a e:Int} (h:qx l k s a e=true):e=0∧cT l k s a=true:=by
 simpa [qx] using h
theorem Bq {l:List Tok} {k:Int} {s:ak} {a e:Int} (h:qx l k s a e=false):e=0→cT l k s a=false:=by
 intro J;subst J;simpa [qx] using h
def eL (l:List Tok) (n k:Int) (s:ak) (a:Int):db ak:=if cT l k s a=true then .ok (aa l a).2.2 (a+1) else .bad 5 (fp l n a)
def rr (l:List Tok) (n a:Int):db (ak×ak):=
 (eL l n 4 [46] a).bind fun _ a=>(eL l n 1 [] a).bind fun s a=>(eL l n 4 [46] a).bind fun _ a=>(eL l n 1 [] a).bind fun t a=> .ok (s,t) a
theorem KP (l:List Tok) (n a e q:Int) (r:Nat) (ar:l.length≤5000) (aq:0≤a) (aH:a≤l.length) (m:ad) (gd:fx [r] m) (K:R→ad→Prop) (U:K (.int .i64 (fp l n a)) (ad.aX m [(r, .cells [.slice false (l.map cl), .int .i64 a, .int .i64 n, .err 115 e, .int .i64 q])])):bn Tryz.prog 126 [.ptr ⟨r,0,none⟩] (ad.aX m [(r, .cells [.slice false (l.map cl), .int .i64 a, .int .i64 n, .err 115 e, .int .i64 q])]) K:=by
 refine enter (c:=cP [] [] [] [] [] [r]) (vs:=[.loc 0 0]) (L:=[bP l n a e q]) (m:=m) false cc Tryz.mixed Tryz.func126 rfl (k:=1) (by show cJ [] _ _ _=true;decide+kernel) rfl (gd.jq rfl) ?_
 refine aZ ?_
 refine dq ?_
 refine an (fun I=>?_) (fun I=>?_)
 · refine fP (by omega) ?_
   refine rt rfl fun _=>e9 U ?_
   show R.int .i64 (fp l n a)=R.int .i64 ((aa l a).2.1)
   refine congrArg (R.int .i64) ?_
   rw [fp,if_pos I]
 refine rt rfl fun _=>e9 U ?_
 show R.int .i64 (fp l n a)=R.int .i64 n
 refine congrArg (R.int .i64) ?_
 rw [fp,if_neg (by omega)]
theorem sG (l:List Tok) (n a e q:Int) (f:Int) (r:Nat) (aW:0<f) (ar:l.length≤5000) (aq:0≤a) (aH:a≤l.length) (he:0≤e) (m:ad) (gd:fx [r] m) (K:R→ad→Prop) (jW:e=0→K (.tuple []) (ad.aX m [(r, .cells [.slice false (l.map cl), .int .i64 a, .int .i64 n, .err 115 f, .int .i64 (fp l n a)])])) (jX:e≠0→K (.tuple []) (ad.aX m [(r, .cells [.slice false (l.map cl), .int .i64 a, .int .i64 n, .err 115 e, .int .i64 q])])):bn Tryz.prog 66 [.ptr ⟨r,0,none⟩, .err 115 f] (ad.aX m [(r, .cells [.slice false (l.map cl), .int .i64 a, .int .i64 n, .err 115 e, .int .i64 q])]) K:=by
 refine enter (c:=cP [] [] [] [] [] [r]) (vs:=[.loc 0 0, .aK (.err 115 f)]) (L:=[bP l n a e q]) (m:=m) false cc Tryz.mixed Tryz.func66 rfl (k:=2) (by show cJ [] _ _ _=true;decide+kernel) rfl (gd.jq rfl) ?_
 refine an (fun I=>?_) (fun I=>?_)
 · refine fE [0] [bP l n a e q] (aw (fp l n a)) rfl (fun bs az gd=>KP l n a e q (bs.getD 0 0) ar (by omega) (by omega) az gd) ?_
   refine rt rfl fun _=>?_
   show K (.tuple []) (ad.aX m [(r, .cells [.slice false (l.map cl), .int .i64 a, .int .i64 n, .err 115 f, .int .i64 (fp l n a)])])
   exact jW I
 refine rt rfl fun _=>?_
 show K (.tuple []) (ad.aX m [(r, .cells [.slice false (l.map cl), .int .i64 a, .int .i64 n, .err 115 e, .int .i64 q])])
 exact jX I
theorem Fi (l:List Tok) (n a e q:Int) (k:Int) (s:ak) (r:Nat) (ar:l.length≤5000) (aq:0≤a) (aH:a≤l.length) (he:0≤e) (m:ad) (gd:fx [r] m) (K:R→ad→Prop) (U:K (.bool (qx l k s a e)) (ad.aX m [(r, .cells [.slice false (l.map cl), .int .i64 a, .int .i64 n, .err 115 e, .int .i64 q])])):bn Tryz.prog 151 [.ptr ⟨r,0,none⟩, .int .i64 k, .str s] (ad.aX m [(r, .cells [.slice false (l.map cl), .int .i64 a, .int .i64 n, .err 115 e, .int .i64 q])]) K:=by
 refine enter (c:=cP [] [] [1] [] [] [r]) (vs:=[.loc 0 0, .aK (.int .i64 k), .aK (.str s)]) (L:=[bP l n a e q]) (m:=m) false cc Tryz.mixed Tryz.func151 rfl (k:=3) (by show cJ [] _ _ _=true;decide+kernel) rfl (gd.jq rfl) ?_
 refine cx [] 6 ((((e==0)&&(decide (a<(l.length:Int))))&&(((aa l a).1)==k))&&((s==([]))||(((aa l a).2.2)==s))) ?_ ?_
 · repeat' first
    |exact ⟨⟨_,rfl,by grind [bM.val]⟩,rfl⟩
    |refine an (fun _=>?_) (fun _=>?_)
    |refine dq ?_
    |refine fP (by omega) ?_
 refine rt rfl fun _=>e9 U ?_
 show R.bool (qx l k s a e)=R.bool ((((e==0)&&(decide (a<(l.length:Int))))&&(((aa l a).1)==k))&&((s==([]))||(((aa l a).2.2)==s)))
 refine congrArg R.bool ?_
 grind [qx,cT]
theorem iT (l:List Tok) (n a e q:Int) (k:Int) (s:ak) (r:Nat) (ar:l.length≤5000) (aq:0≤a) (aH:a≤l.length) (he:0≤e) (m:ad) (gd:fx [r] m) (K:R→ad→Prop) (jW:e=0→cT l k s a=true→K (.bool true) (ad.aX m [(r, .cells [.slice false (l.map cl), .int .i64 (a+1), .int .i64 n, .err 115 e, .int .i64 q])])) (jX:(e=0→cT l k s a=false)→K (.bool false) (ad.aX m [(r, .cells [.slice false (l.map cl), .int .i64 a, .int .i64 n, .err 115 e, .int .i64 q])])):bn Tryz.prog 176 [.ptr ⟨r,0,none⟩, .int .i64 k, .str s] (ad.aX m [(r, .cells [.slice false (l.map cl), .int .i64 a, .int .i64 n, .err 115 e, .int .i64 q])]) K:=by
 refine enter (c:=cP [] [] [] [] [] [r]) (vs:=[.loc 0 0, .aK (.int .i64 k), .aK (.str s)]) (L:=[bP l n a e q]) (m:=m) false cc Tryz.mixed Tryz.func176 rfl (k:=3) (by show cJ [] _ _ _=true;decide+kernel) rfl (gd.jq rfl) ?_
 refine aZ ?_
 refine fE [0] [bP l n a e q] (e6 (qx l k s a e)) rfl (fun bs az gd=>Fi l n a e q k s (bs.getD 0 0) ar (by omega) (by omega) (by omega) az gd) ?_
 refine an (fun I=>?_) (fun I=>?_)
 · have ay:=yP I
   have bG:=kG ay.2
   refine an (by omega) ?_
   refine rt rfl fun _=>?_
   show K (.bool true) (ad.aX m [(r, .cells [.slice false (l.map cl), .int .i64 (a+1), .int .i64 n, .err 115 e, .int .i64 q])])
   exact jW ay.1 ay.2
 refine rt rfl fun _=>?_
 show K (.bool false) (ad.aX m [(r, .cells [.slice false (l.map cl), .int .i64 a, .int .i64 n, .err 115 e, .int .i64 q])])
 exact jX (Bq I)
theorem nG (l:List Tok) (n a e q:Int) (k:Int) (s:ak) (r:Nat) (ar:l.length≤5000) (aq:0≤a) (aH:a≤l.length) (he:0≤e) (m:ad) (gd:fx [r] m) (K:R→ad→Prop) (U:∀hD cw b9 dA,bY l (eL l n k s a) hD a e q cw b9 dA→(b9≠0→hD=[])→K (.str hD) (ad.aX m [(r, .cells [.slice false (l.map cl), .int .i64 cw, .int .i64 n, .err 115 b9, .int .i64 dA])])):bn Tryz.prog 149 [.ptr ⟨r,0,none⟩, .int .i64 k, .str s] (ad.aX m [(r, .cells [.slice false (l.map cl), .int .i64 a, .int .i64 n, .err 115 e, .int .i64 q])]) K:=by
 refine enter (c:=cP [] [] [] [] [] [r]) (vs:=[.loc 0 0, .aK (.int .i64 k), .aK (.str s)]) (L:=[bP l n a e q]) (m:=m) false cc Tryz.mixed Tryz.func149 rfl (k:=3) (by show cJ [] _ _ _=true;decide+kernel) rfl (gd.jq rfl) ?_
 refine aZ ?_
 refine dK 115 [0] (σ:=(Unit) ⊕ (Unit)) (Sum.elim (fun _=>e=0∧cT l k s a=true) (fun _=>e=0→cT l k s a=false)) (Sum.elim (fun _=> .b (.lit true)) (fun _=> .b (.lit false))) (Sum.elim (fun _=>[bP l n (a+1) e q]) (fun _=>[bP l n a e q])) rfl (fun x=>by rcases x with _|_<;>rfl) (fun bs az gd ao K U=>iT l n a e q k s (bs.getD 0 0) ar (by omega) (by omega) (by omega) az gd K (fun z w=>U (.inl ()) ⟨z,w⟩) (fun z=>U (.inr ()) z)) ?_
 rintro (_|_) b5
 · try dsimp only [Sum.elim_inl,Sum.elim_inr] at b5
   dsimp only [Sum.elim_inl,Sum.elim_inr]
   have yQ:=kG b5.2
   refine an (by omega) ?_
   refine fP (by omega) ?_
   refine rt rfl fun _=>?_
   show K (.str ((aa l ((a+1)- 1)).2.2)) (ad.aX m [(r, .cells [.slice false (l.map cl), .int .i64 (a+1), .int .i64 n, .err 115 e, .int .i64 q])])
   rw [show a+1- 1=a by omega]
   refine U _ _ _ _ ⟨fun _=>?_,fun z=>absurd b5.1 z,by omega,by omega,he,by omega⟩ fun z=>absurd b5.1 z
   constructor<;>grind [eL,db.ok]
 try dsimp only [Sum.elim_inl,Sum.elim_inr] at b5
 dsimp only [Sum.elim_inl,Sum.elim_inr]
 refine dK 115 [0] (σ:=Int×Int) (fun ⟨eF,eY⟩=>(e=0→eF=5∧eY=fp l n a)∧(e≠0→eF=e∧eY=q)∧0<eF) (fun ⟨eF,eY⟩=> .ez []) (fun ⟨eF,eY⟩=>[bP l n a eF eY]) rfl (fun _=>rfl) (fun bs az gd ao K U=>sG l n a e q 5 (bs.getD 0 0) (by decide) ar (by omega) (by omega) (by omega) az gd K (fun z=>U (5,fp l n a) ⟨fun _=>⟨rfl,rfl⟩,fun y=>absurd z y,by decide⟩) (fun z=>U (e,q) ⟨fun y=>absurd y z,fun _=>⟨rfl,rfl⟩,by omega⟩)) ?_
 rintro ⟨eF,eY⟩ eO
 dsimp only at eO
 obtain ⟨Br,Bs,KQ⟩:=eO
 refine rt rfl fun _=>?_
 show K (.str ([])) (ad.aX m [(r, .cells [.slice false (l.map cl), .int .i64 a, .int .i64 n, .err 115 eF, .int .i64 eY])])
 refine U _ _ _ _ ⟨fun z=>?_,fun z=>⟨rfl,Bs z⟩,by omega,by omega,by omega,by omega⟩ fun _=>rfl
 have b5:=b5 z
 constructor<;>grind [eL,db.bad]
theorem yR (l:List Tok) (n a e q:Int) (r:Nat) (ar:l.length≤5000) (aq:0≤a) (aH:a≤l.length) (he:0≤e) (m:ad) (gd:fx [r] m) (K:R→ad→Prop) (U:∀hD cw b9 dA,bY l (eL l n 1 [] a) hD a e q cw b9 dA→K (.str hD) (ad.aX m [(r, .cells [.slice false (l.map cl), .int .i64 cw, .int .i64 n, .err 115 b9, .int .i64 dA])])):bn Tryz.prog 150 [.ptr ⟨r,0,none⟩] (ad.aX m [(r, .cells [.slice false (l.map cl), .int .i64 a, .int .i64 n, .err 115 e, .int .i64 q])]) K:=by
 refine enter (c:=cP [] [] [] [] [] [r]) (vs:=[.loc 0 0]) (L:=[bP l n a e q]) (m:=m) false cc Tryz.mixed Tryz.func150 rfl (k:=1) (by show cJ [] _ _ _=true;decide+kernel) rfl (gd.jq rfl) ?_
 refine dK 115 [0] (σ:=ak×Int×Int×Int) (fun ⟨gn,cj,b3,cy⟩=>(bY l (eL l n 1 ([]) a) gn a e q cj b3 cy)∧(b3≠0→gn=[])) (fun ⟨gn,cj,b3,cy⟩=>bf gn) (fun ⟨gn,cj,b3,cy⟩=>[bP l n cj b3 cy]) rfl (fun _=>rfl) (fun bs az gd ao K U=>nG l n a e q 1 ([]) (bs.getD 0 0) ar (by omega) (by omega) (by omega) az gd K (fun fJ de df dh ba aA=>U (fJ,de,df,dh) ⟨ba,aA⟩)) ?_
 rintro ⟨gn,cj,b3,cy⟩ b5
 dsimp only at b5
 obtain ⟨b5,pG⟩:=b5
 have yS:=b5.bD
 have pT:=b5.ab
 have yT:=b5.dd
 refine rt rfl fun _=>?_
 show K (.str gn) (ad.aX m [(r, .cells [.slice false (l.map cl), .int .i64 cj, .int .i64 n, .err 115 b3, .int .i64 cy])])
 exact U _ _ _ _ b5
theorem KR (l:List Tok) (n a e q:Int) (r:Nat) (ar:l.length≤5000) (aq:0≤a) (aH:a≤l.length) (he:0≤e) (m:ad) (gd:fx [r] m) (K:R→ad→Prop) (U:∀hD hE cw b9 dA,bY l (rr l n a) (hD,hE) a e q cw b9 dA→K (.tuple [.str hD, .str hE]) (ad.aX m [(r, .cells [.slice false (l.map cl), .int .i64 cw, .int .i64 n, .err 115 b9, .int .i64 dA])])):bn Tryz.prog 214 [.ptr ⟨r,0,none⟩] (ad.aX m [(r, .cells [.slice false (l.map cl), .int .i64 a, .int .i64 n, .err 115 e, .int .i64 q])]) K:=by
 refine enter (c:=cP [] [] [] [] [] [r]) (vs:=[.loc 0 0]) (L:=[bP l n a e q]) (m:=m) false cc Tryz.mixed Tryz.func214 rfl (k:=1) (by show cJ [] _ _ _=true;decide+kernel) rfl (gd.jq rfl) ?_
 refine dK 115 [0] (σ:=ak×Int×Int×Int) (fun ⟨gn,cj,b3,cy⟩=>(bY l (eL l n 4 ([46]:List UInt8) a) gn a e q cj b3 cy)∧(b3≠0→gn=[])) (fun ⟨gn,cj,b3,cy⟩=>bf gn) (fun ⟨gn,cj,b3,cy⟩=>[bP l n cj b3 cy]) rfl (fun _=>rfl) (fun bs az gd ao K U=>nG l n a e q 4 ([46]:List UInt8) (bs.getD 0 0) ar (by omega) (by omega) (by omega) az gd K (fun fJ de df dh ba aA=>U (fJ,de,df,dh) ⟨ba,aA⟩)) ?_
 rintro ⟨gn,cj,b3,cy⟩ b5
 dsimp only at b5
 obtain ⟨b5,pG⟩:=b5
 have yS:=b5.bD
 have pT:=b5.ab
 have yT:=b5.dd
 refine dK 115 [0] (σ:=ak×Int×Int×Int) (fun ⟨j7,h1,eF,eY⟩=>bY l (eL l n 1 [] cj) j7 cj b3 cy h1 eF eY) (fun ⟨j7,h1,eF,eY⟩=>bf j7) (fun ⟨j7,h1,eF,eY⟩=>[bP l n h1 eF eY]) rfl (fun _=>rfl) (fun bs az gd ao K U=>yR l n cj b3 cy (bs.getD 0 0) ar (by omega) (by omega) (by omega) az gd K (fun fJ de df dh ba=>U (fJ,de,df,dh) ba)) ?_
 rintro ⟨j7,h1,eF,eY⟩ eO
 dsimp only at eO
 have KS:=eO.bD
 have j1:=eO.ab
 have KT:=eO.dd
 refine dK 115 [0] (σ:=ak×Int×Int×Int) (fun ⟨oq,iw,iE,ju⟩=>(bY l (eL l n 4 ([46]:List UInt8) h1) oq h1 eF eY iw iE ju)∧(iE≠0→oq=[])) (fun ⟨oq,iw,iE,ju⟩=>bf oq) (fun ⟨oq,iw,iE,ju⟩=>[bP l n iw iE ju]) rfl (fun _=>rfl) (fun bs az gd ao K U=>nG l n h1 eF eY 4 ([46]:List UInt8) (bs.getD 0 0) ar (by omega) (by omega) (by omega) az gd K (fun fJ de df dh ba aA=>U (fJ,de,df,dh) ⟨ba,aA⟩)) ?_
 rintro ⟨oq,iw,iE,ju⟩ fF
 dsimp only at fF
 obtain ⟨fF,qa⟩:=fF
 have KU:=fF.bD
 have KV:=fF.ab
 have KW:=fF.dd
 refine dK 115 [0] (σ:=ak×Int×Int×Int) (fun ⟨ot,kH,j8,kI⟩=>bY l (eL l n 1 [] iw) ot iw iE ju kH j8 kI) (fun ⟨ot,kH,j8,kI⟩=>bf ot) (fun ⟨ot,kH,j8,kI⟩=>[bP l n kH j8 kI]) rfl (fun _=>rfl) (fun bs az gd ao K U=>yR l n iw iE ju (bs.getD 0 0) ar (by omega) (by omega) (by omega) az gd K (fun fJ de df dh ba=>U (fJ,de,df,dh) ba)) ?_
 rintro ⟨ot,kH,j8,kI⟩ gC
 dsimp only at gC
 have KX:=gC.bD
 have KY:=gC.ab
 have KZ:=gC.dd
 refine rt rfl fun _=>?_
 show K (.tuple [.str j7, .str ot]) (ad.aX m [(r, .cells [.slice false (l.map cl), .int .i64 kH, .int .i64 n, .err 115 j8, .int .i64 kI])])
 exact U _ _ _ _ _ (b5.bind (eO.bind (fF.bind (gC.map fun t=>(j7,t)))))
end Go.Proofs
end
section
namespace Go.Proofs
open Go Go.bh Go.bS
set_option maxRecDepth 100000
inductive aD where
 |mk (kind:Int) (v:aR) (s t:ak) (a:List aD) (n:List ak)
instance:Inhabited aD:=⟨.mk 0 cK [] [] [] []⟩
def aD.kind:aD→Int| .mk k _ _ _ _ _=>k
def aD.v:aD→aR| .mk _ v _ _ _ _=>v
def aD.s:aD→ak| .mk _ _ s _ _ _=>s
def aD.t:aD→ak| .mk _ _ _ t _ _=>t
def aD.a:aD→List aD| .mk _ _ _ _ a _=>a
def aD.n:aD→List ak| .mk _ _ _ _ _ n=>n
mutual
def dv:aD→R
 | .mk k v s t a n=> .agg [.int .i64 k, .int .i64 v.kind, .int .i64 v.n, .str v.s, .slice false (v.l.map cm), .slice false (v.f.map bB), .str s, .str t, .slice false (Bt a), .slice false (n.map cf)]
def Bt:List aD→List R
 |[]=>[]
 |e::r=>dv e::Bt r
end
theorem Vl (l:List aD):Bt l=l.map dv:=by
 induction l with
 |nil=>rfl
 |cons v r aQ=>simp only [Bt,List.map_cons,aQ]
def e7 (e:aD):R:= .agg [.int .i64 e.kind, .int .i64 e.v.kind, .int .i64 e.v.n, .str e.v.s, .slice false (e.v.l.map cm), .slice false (e.v.f.map bB), .str e.s, .str e.t, .slice false (e.a.map dv), .slice false (e.n.map cf)]
theorem hI (e:aD):dv e=e7 e:=by
 cases e with
 |mk k v s t a n=>simp only [dv,e7,Vl,aD.kind,aD.v,aD.s,aD.t,aD.a,aD.n]
mutual
def gM:aD→Nat
 | .mk _ _ _ _ a _=>lV a+1
def lV:List aD→Nat
 |[]=>0
 |e::r=>gM e+lV r
end
theorem Vm {l:List aD} {e:aD} (h:e∈l):gM e≤lV l:=by
 induction l with
 |nil=>cases h
 |cons a r aQ=>
  simp only [lV]
  rcases List.mem_cons.1 h with rfl|h
  · omega
  · have:=aQ h;omega
theorem Fj (e:aD):gM e=lV e.a+1:=by
 cases e with
 |mk k v s t a n=>simp only [gM,aD.a]
theorem sH {e x:aD} (h:x∈e.a):gM x<gM e:=by
 have:=Vm h
 rw [Fj e];omega
def hf:aD:= .mk 0 cK [] [] [] []
def hJ (v:aR):aD:= .mk 1 v [] [] [] []
def sI (l:List Tok):Prop:=∀t∈l,t.1=2→t.2.2≠[]∧t.2.2.length≤10∧∀c∈t.2.2,48≤c.toNat∧c.toNat≤57
theorem K0:∀(s:ak) (acc:Nat),(∀c∈s,48≤c.toNat∧c.toNat≤57)→∃n,Lib.decFrom acc s=some n∧n<(acc+1)*10^s.length
 |[],acc,_=>⟨acc,rfl,by simp⟩
 |c::r,acc,h=>by
  have ag:=h c (List.mem_cons_self ..)
  obtain ⟨n,I,J⟩:=K0 r (acc*10+(c.toNat- 48)) fun x ah=>h x (List.mem_cons_of_mem _ ah)
  refine ⟨n,by simp only [Lib.decFrom,Lib.digitVal,if_pos ag];exact I,Nat.lt_of_lt_of_le J ?_⟩
  rw [List.length_cons,Nat.pow_succ,Nat.mul_comm (10^r.length) 10,←Nat.mul_assoc]
  exact Nat.mul_le_mul_right _ (by omega)
theorem K1 {s:ak} (aq:s≠[]) (h:∀c∈s,48≤c.toNat∧c.toNat≤57):Lib.atoi s=(Lib.decFrom 0 s).map fun (m:Nat)=>(m:Int):=by
 cases s with
 |nil=>exact absurd rfl aq
 |cons c r=>
  have ag:=h c (List.mem_cons_self ..)
  have I:(c==45)=false:=by
   rw [beq_eq_false_iff_ne];rintro rfl;exact absurd ag.1 (by decide)
  have J:(c==43)=false:=by
   rw [beq_eq_false_iff_ne];rintro rfl;exact absurd ag.1 (by decide)
  simp only [Lib.atoi,I,J,Lib.decNat,List.isEmpty_cons,Bool.false_eq_true,if_false]
def hK (s:ak):Int:=(Lib.atoi s).getD 0
theorem Vn {s:ak} (aq:s≠[]) (ar:s.length≤10) (h:∀c∈s,48≤c.toNat∧c.toNat≤57):0≤hK s∧hK s<10000000000∧∃n:Nat,Lib.decFrom 0 s=some n∧hK s=n∧Lib.atoi s=some (n:Int):=by
 obtain ⟨n,I,J⟩:=K0 s 0 h
 have e:=K1 aq h
 rw [I,Option.map_some] at e
 have ai:10^s.length≤10^10:=Nat.pow_le_pow_right (by decide) ar
 have:n<10000000000:=by
  have:(10:Nat)^10=10000000000:=by decide
  omega
 refine ⟨by rw [hK,e];simp,by rw [hK,e];simp;omega,n,I,by rw [hK,e];rfl,e⟩
theorem Vo {l:List Tok} {s:ak} {a:Int} (hw:sI l) (aq:0≤a) (h:cT l 2 s a=true):(aa l a).2.2≠[]∧(aa l a).2.2.length≤10∧∀c∈(aa l a).2.2,48≤c.toNat∧c.toNat≤57:=by
 have bG:=kG h
 refine hw _ (ch aq bG) ?_
 simp only [cT,Bool.and_eq_true,beq_iff_eq] at h
 exact h.1.2
def ou (l:List Tok) (n eR a:Int):db aD:=
 if cT l 2 [] a=true then (if 1000000000<hK (aa l a).2.2∨(eR<0∧hK (aa l a).2.2=0) then .bad 1 (fp l n a) else .ok (hJ (.mk 1 (eR*hK (aa l a).2.2) [] [] [])) (a+1)) else .bad 5 (fp l n a)
theorem Vp {l:List Tok} {s:ak} {n a e q dt ax cX:Int} (hw:sI l) (aq:0≤a) (aA:e=0) (o:bY l (eL l n 2 [] a) s a e q dt ax cX) (al:ax≠0→s=[]):
 (s.length≤18∧∀n,Lib.atoi s=some n→-9223372036854775808≤n∧n≤9223372036854775807)∧(0≤hK s∧hK s<10000000000)∧((ax=0∧cT l 2 [] a=true∧s=(aa l a).2.2∧dt=a+1)∨(ax=5∧cX=fp l n a∧cT l 2 [] a=false∧s=[])):=by
 have h:=o.ok aA
 cases ao:cT l 2 [] a with
 |true=>
  rw [eL,if_pos ao] at h
  have bp:ax=0:=h.f
  obtain ⟨I,J⟩:=h.y bp
  have I:s=(aa l a).2.2:=I
  have J:dt=a+1:=J
  subst I
  obtain ⟨t1,t2,t3⟩:=Vo hw aq ao
  obtain ⟨d1,d2,k,d3,d4,d5⟩:=Vn t1 t2 t3
  refine ⟨⟨by omega,fun m hm=>?_⟩,⟨d1,d2⟩, .inl ⟨bp,rfl,rfl,J⟩⟩
  rw [d5] at hm
  obtain rfl:=Option.some.inj hm
  omega
 |false=>
  rw [eL,if_neg (by rw [ao];decide)] at h
  have bp:ax=5:=h.f
  have I:cX=fp l n a:=h.z (by omega)
  obtain rfl:=al (by omega)
  exact ⟨⟨by simp,fun m hm=>by cases hm⟩,by decide, .inr ⟨bp,I,rfl,rfl⟩⟩
theorem Vq (s:ak) (al:s.length≤18) (ae:∀n,Lib.atoi s=some n→-9223372036854775808≤n∧n≤9223372036854775807) (m:ad) (aJ:cY m) (K:R→ad→Prop) (U:K (.tuple [.int .i64 (hK s), .opt (Lib.atoi s).isNone]) m):bn Tryz.prog 170 [.str s] m K:=
 have ⟨_,_,_,_,_,_,_,aJ⟩:=aJ
 S2 ⟨_,Tryz.func170,rfl,by kernel_rfl⟩ (fun s n I J w=>Tryz.strconv_Atoi s n I J w) (fun s I J fq w ai aC=>(Tryz.strconv_Atoi_err s I J fq w ai aC).mono fun e w' ⟨N,aN,_,_,bE⟩=>⟨N,aN,bE⟩) al ae aJ U
set_option maxHeartbeats 1000000 in
theorem K2 (l:List Tok) (n a e q:Int) (eR:Int) (r:Nat) (ar:l.length≤5000) (aq:0≤a) (aH:a≤l.length) (he:0≤e) (hw:sI l) (Fk:eR=1∨eR=-1) (aA:e=0) (b:Int) (dz:0≤b) (ae:b≤a) (iO:eR<0→b+1≤a) (m:ad) (gd:fx [r] m) (K:R→ad→Prop) (aJ:cY m) (U:∀bR cw b9 dA,bY l (ou l n eR a) bR b e q cw b9 dA→K (e7 bR) (ad.aX m [(r, .cells [.slice false (l.map cl), .int .i64 cw, .int .i64 n, .err 115 b9, .int .i64 dA])])):bn Tryz.prog 179 [.ptr ⟨r,0,none⟩, .int .i64 eR] (ad.aX m [(r, .cells [.slice false (l.map cl), .int .i64 a, .int .i64 n, .err 115 e, .int .i64 q])]) K:=by
 refine enter (c:=cP [] [] [2] [] [] [r]) (vs:=[.loc 0 0, .aK (.int .i64 eR)]) (L:=[bP l n a e q]) (m:=m) false cc Tryz.mixed Tryz.func179 rfl (k:=2) (by show cJ [] _ _ _=true;decide+kernel) rfl (gd.jq rfl) ?_
 refine dK 115 [0] (σ:=ak×Int×Int×Int) (fun ⟨gn,cj,b3,cy⟩=>(bY l (eL l n 2 ([]) a) gn a e q cj b3 cy)∧(b3≠0→gn=[])) (fun ⟨gn,cj,b3,cy⟩=>bf gn) (fun ⟨gn,cj,b3,cy⟩=>[bP l n cj b3 cy]) rfl (fun _=>rfl) (fun bs az gd ao K U=>nG l n a e q 2 ([]) (bs.getD 0 0) ar (by omega) (by omega) (by omega) az gd K (fun fJ de df dh ba aA=>U (fJ,de,df,dh) ⟨ba,aA⟩)) ?_
 rintro ⟨gn,cj,b3,cy⟩ b5
 dsimp only at b5
 obtain ⟨b5,pG⟩:=b5
 have yS:=b5.bD
 have pT:=b5.ab
 have yT:=b5.dd
 obtain ⟨gH,Uo,hM⟩:=Vp hw aq aA b5 pG
 refine fQ [] [] (.aK (.tuple [.int .i64 (hK gn), .opt ((Lib.atoi gn).isNone)])) rfl (fun bs az gd ao=>fun K U=>Vq gn gH.1 gH.2 az (cY.up ao aJ) K U) ?_
 refine aZ ?_
 refine cx [0,1,4,5] 22 ((decide (1000000000<hK gn))||((decide (eR<0))&&((hK gn)==0))) ?_ ?_
 · repeat' first
    |exact ⟨⟨_,rfl,by grind [bM.val]⟩,rfl⟩
    |refine an (fun _=>?_) (fun _=>?_)
 refine an (fun I=>?_) (fun I=>?_)
 · replace I:(1000000000<hK gn)∨((eR<0)∧(hK gn=0)):=((da I).imp (fun q=>(of_decide_eq_true q)) (fun q=>⟨(of_decide_eq_true (e4 q)),(eq_of_beq (fY q))⟩))
   have EN:b≤cj- 1:=by
    rcases hM with ⟨_,_,_,c4⟩|⟨_,_,_,c4⟩
    · omega
    · have:hK gn=0:=by rw [c4];rfl
      omega
   refine an (by rcases Fk with h|h<;>subst h<;>omega) ?_
   refine dK 115 [0] (σ:=Int×Int) (fun ⟨eF,eY⟩=>(b3=0→eF=1∧eY=fp l n (cj- 1))∧(b3≠0→eF=b3∧eY=cy)∧0<eF) (fun ⟨eF,eY⟩=> .ez []) (fun ⟨eF,eY⟩=>[bP l n (cj- 1) eF eY]) rfl (fun _=>rfl) (fun bs az gd ao K U=>sG l n (cj- 1) b3 cy 1 (bs.getD 0 0) (by decide) ar (by omega) (by omega) (by omega) az gd K (fun z=>U (1,fp l n (cj- 1)) ⟨fun _=>⟨rfl,rfl⟩,fun y=>absurd z y,by decide⟩) (fun z=>U (b3,cy) ⟨fun y=>absurd y z,fun _=>⟨rfl,rfl⟩,by omega⟩)) ?_
   rintro ⟨eF,eY⟩ eO
   dsimp only at eO
   obtain ⟨Br,Bs,KQ⟩:=eO
   refine an (by rcases Fk with h|h<;>subst h<;>omega) ?_
   refine rt rfl fun _=>?_
   show K (.agg [.int .i64 1, .int .i64 1, .int .i64 (eR*(hK gn)), .str ([]), .slice false [], .slice false [], .str ([]), .str ([]), .slice false [], .slice false []]) (ad.aX m [(r, .cells [.slice false (l.map cl), .int .i64 (cj- 1), .int .i64 n, .err 115 eF, .int .i64 eY])])
   rcases hM with ⟨fH,c2,c3,c4⟩|⟨fH,c2,c3,c4⟩
   · obtain ⟨rfl,rfl⟩:=Br fH
     refine U (hJ (.mk 1 (eR*hK gn) [] [] [])) _ _ _ ⟨fun _=>?_,fun h=>absurd aA h,by omega,by omega,by decide,fun h=>by cases h⟩
     rw [show cj- 1=a by omega]
     constructor<;>grind [ou,db.bad]
   · obtain ⟨rfl,rfl⟩:=Bs (by omega)
     refine U (hJ (.mk 1 (eR*hK gn) [] [] [])) _ _ _ ⟨fun _=>?_,fun h=>absurd aA h,by omega,by omega,by omega,fun h=>by omega⟩
     constructor<;>grind [ou,db.bad]
 replace I:(hK gn≤1000000000)∧((0≤eR)∨(hK gn≠0)):=⟨(Int.not_lt.1 (of_decide_eq_false (bZ I))),((fZ (c8 I)).imp (fun q=>(Int.not_lt.1 (of_decide_eq_false q))) (fun q=>(ne_of_beq_false q)))⟩
 refine an (by rcases Fk with h|h<;>subst h<;>omega) ?_
 refine rt rfl fun _=>?_
 show K (.agg [.int .i64 1, .int .i64 1, .int .i64 (eR*(hK gn)), .str ([]), .slice false [], .slice false [], .str ([]), .str ([]), .slice false [], .slice false []]) (ad.aX m [(r, .cells [.slice false (l.map cl), .int .i64 cj, .int .i64 n, .err 115 b3, .int .i64 cy])])
 rcases hM with ⟨fH,c2,c3,c4⟩|⟨fH,c2,c3,c4⟩
 · refine U (hJ (.mk 1 (eR*hK gn) [] [] [])) _ _ _ ⟨fun _=>?_,fun h=>absurd aA h,by omega,by omega,by omega,fun h=>by omega⟩
   constructor<;>grind [ou,db.ok]
 · refine U (hJ (.mk 1 (eR*hK gn) [] [] [])) _ _ _ ⟨fun _=>?_,fun h=>absurd aA h,by omega,by omega,by omega,fun h=>by omega⟩
   constructor<;>grind [ou,db.bad]
end Go.Proofs
end
section
namespace Go.Proofs
open Go Go.bh Go.bS
set_option maxRecDepth 100000
abbrev k6 (e:aD):a6:= .agg [aw e.kind,aw e.v.kind,aw e.v.n,bf e.v.s,bj (e.v.l.map cm),bj (e.v.f.map bB),bf e.s,bf e.t,bj (e.a.map dv),bj (e.n.map cf)]
instance:Inhabited (db aD):=⟨.bad 0 0⟩
section
variable (f:Int→db aD) (l:List Tok) (n:Int)
def nH {α β:Type} [Inhabited β] (xs:List α) (a:Int) (g:Int→db β):db β:=if xs=[] then g a else (eL l n 4 [44] a).bind fun _ a=>g a
def lW:Nat→Int→List aD→db aD
 |0,a,_=> .bad 5 (fp l n a)
 |k+1,a,xs=>if cT l 4 [93] a=true then .ok (.mk 8 cK [] [] xs []) (a+1) else nH l n xs a fun a=>(f a).bind fun x a=>lW k a (xs++[x])
def tW (bV:List ak) (m:ak):Prop:=0<(bV.length:Int)∧Op.bytesLess (aa bV ((bV.length:Int)- 1)) m=false
instance (bV:List ak) (m:ak):Decidable (tW bV m):=by unfold tW;infer_instance
def kJ:Nat→Int→List ak→List aD→db aD
 |0,a,_,_=> .bad 5 (fp l n a)
 |k+1,a,bV,xs=>if cT l 4 [125] a=true then .ok (.mk 9 cK [] [] xs bV) (a+1) else nH l n xs a fun a=>(eL l n 1 [] a).bind fun m a=>
   if tW bV m then .bad 3 (fp l n a) else (eL l n 4 [58] a).bind fun _ a=>(f a).bind fun x a=>kJ k a (bV++[m]) (xs++[x])
def pZ (a:Int):db aD:=(f a).bind fun x a=>
 if cT l 4 [43] a=true then (f (a+1)).bind fun y a=>(eL l n 4 [41] a).bind fun _ a=> .ok (.mk 5 cK [] [] [x,y] []) a
 else if cT l 4 [61,61] a=true then (f (a+1)).bind fun y a=>(eL l n 4 [41] a).bind fun _ a=> .ok (.mk 6 cK [] [] [x,y] []) a
 else if cT l 4 [63] a=true then (f (a+1)).bind fun y a=>(eL l n 4 [58] a).bind fun _ a=>(f a).bind fun z a=>(eL l n 4 [41] a).bind fun _ a=> .ok (.mk 7 cK [] [] [x,y,z] []) a
 else .bad 5 (fp l n a)
def j9 (a:Int):db aD:=
 if cT l 1 [110,117,108,108] a=true then .ok (hJ cK) (a+1)
 else if cT l 1 [116,114,117,101] a=true then .ok (hJ (.mk 3 1 [] [] [])) (a+1)
 else if cT l 1 [102,97,108,115,101] a=true then .ok (hJ (.mk 3 0 [] [] [])) (a+1)
 else if cT l 1 [105,110] a=true then (eL l n 4 [46] (a+1)).bind fun _ a=>(eL l n 1 [] a).bind fun s a=> .ok (.mk 2 cK s [] [] []) a
 else if cT l 1 [114,101,115] a=true then (rr l n (a+1)).bind fun st a=> .ok (.mk 3 cK st.1 st.2 [] []) a
 else if cT l 1 [115,116,97,99,107] a=true then (rr l n (a+1)).bind fun st a=> .ok (.mk 4 cK st.1 st.2 [] []) a
 else if cT l 1 [103,101,116] a=true then (f (a+1)).bind fun x a=>(eL l n 1 [] a).bind fun s a=> .ok (.mk 10 cK s [] [x] []) a
 else .bad 5 (fp l n a)
end
def cQ (l:List Tok) (n:Int):Nat→Int→db aD
 |0,a=> .bad 2 (fp l n a)
 |k+1,a=>
  if cT l 4 [40] a=true then pZ (cQ l n k) l n (a+1)
  else if cT l 4 [91] a=true then lW (cQ l n k) l n (l.length+1) (a+1) []
  else if cT l 4 [123] a=true then kJ (cQ l n k) l n (l.length+1) (a+1) [] []
  else if cT l 4 [45] a=true then ou l n (-1) (a+1)
  else if cT l 2 [] a=true then ou l n 1 a
  else if cT l 3 [] a=true then .ok (hJ (.mk 2 0 (aa l a).2.2 [] [])) (a+1)
  else j9 (cQ l n k) l n a
theorem ew {l:List Tok} {k:Int} {s:ak} {a:Int} (h:cT l k s a=false):¬cT l k s a=true:=by rw [h];decide
theorem bY.stuck {l:List Tok} {α:Type} {p:db α} {x:α} {a e q:Int} (h:e≠0) (aq:0≤e) (aH:a≤l.length):bY l p x a e q a e q:=⟨fun z=>absurd z h,fun _=>⟨rfl,rfl,rfl⟩,Int.le_refl _,aH,aq,fun z=>absurd z h⟩
set_option maxHeartbeats 1000000 in
theorem K3 (l:List Tok) (n a e q:Int) (d:Int) (r:Nat) (ar:l.length≤5000) (aq:0≤a) (aH:a≤l.length) (he:0≤e) (aA:e≠0) (m:ad) (gd:fx [r] m) (K:R→ad→Prop) (U:K (e7 hf) (ad.aX m [(r, .cells [.slice false (l.map cl), .int .i64 a, .int .i64 n, .err 115 e, .int .i64 q])])):bn Tryz.prog 180 [.ptr ⟨r,0,none⟩, .int .i64 d] (ad.aX m [(r, .cells [.slice false (l.map cl), .int .i64 a, .int .i64 n, .err 115 e, .int .i64 q])]) K:=by
 refine enter (c:=cP [] [] [] [] [] [r]) (vs:=[.loc 0 0, .aK (.int .i64 d)]) (L:=[bP l n a e q]) (m:=m) false cc Tryz.mixed Tryz.func180 rfl (k:=2) (by show cJ [] _ _ _=true;decide+kernel) rfl (gd.jq rfl) ?_
 refine aZ ?_
 refine fE [0] [bP l n a e q] (.b (.lit false)) rfl (fun bs az gd=>fun K U=>iT l n a e q 1 ([110,117,108,108]:List UInt8) (bs.getD 0 0) ar (by omega) (by omega) (by omega) az gd K (fun z=>absurd z (by omega)) fun _=>U) ?_
 refine fE [0] [bP l n a e q] (.b (.lit false)) rfl (fun bs az gd=>fun K U=>iT l n a e q 1 ([116,114,117,101]:List UInt8) (bs.getD 0 0) ar (by omega) (by omega) (by omega) az gd K (fun z=>absurd z (by omega)) fun _=>U) ?_
 refine fE [0] [bP l n a e q] (.b (.lit false)) rfl (fun bs az gd=>fun K U=>iT l n a e q 1 ([102,97,108,115,101]:List UInt8) (bs.getD 0 0) ar (by omega) (by omega) (by omega) az gd K (fun z=>absurd z (by omega)) fun _=>U) ?_
 refine fE [0] [bP l n a e q] (.b (.lit false)) rfl (fun bs az gd=>fun K U=>iT l n a e q 1 ([105,110]:List UInt8) (bs.getD 0 0) ar (by omega) (by omega) (by omega) az gd K (fun z=>absurd z (by omega)) fun _=>U) ?_
 refine fE [0] [bP l n a e q] (.b (.lit false)) rfl (fun bs az gd=>fun K U=>iT l n a e q 1 ([114,101,115]:List UInt8) (bs.getD 0 0) ar (by omega) (by omega) (by omega) az gd K (fun z=>absurd z (by omega)) fun _=>U) ?_
 refine fE [0] [bP l n a e q] (.b (.lit false)) rfl (fun bs az gd=>fun K U=>iT l n a e q 1 ([115,116,97,99,107]:List UInt8) (bs.getD 0 0) ar (by omega) (by omega) (by omega) az gd K (fun z=>absurd z (by omega)) fun _=>U) ?_
 refine fE [0] [bP l n a e q] (.b (.lit false)) rfl (fun bs az gd=>fun K U=>iT l n a e q 1 ([103,101,116]:List UInt8) (bs.getD 0 0) ar (by omega) (by omega) (by omega) az gd K (fun z=>absurd z (by omega)) fun _=>U) ?_
 refine dK 115 [0] (σ:=Int×Int) (fun ⟨b3,cy⟩=>(e=0→b3=5∧cy=fp l n a)∧(e≠0→b3=e∧cy=q)∧0<b3) (fun ⟨b3,cy⟩=> .ez []) (fun ⟨b3,cy⟩=>[bP l n a b3 cy]) rfl (fun _=>rfl) (fun bs az gd ao K U=>sG l n a e q 5 (bs.getD 0 0) (by decide) ar (by omega) (by omega) (by omega) az gd K (fun z=>U (5,fp l n a) ⟨fun _=>⟨rfl,rfl⟩,fun y=>absurd z y,by decide⟩) (fun z=>U (e,q) ⟨fun y=>absurd y z,fun _=>⟨rfl,rfl⟩,by omega⟩)) ?_
 rintro ⟨b3,cy⟩ b5
 dsimp only at b5
 obtain ⟨K4,Bu,K5⟩:=b5
 refine rt rfl fun _=>?_
 show K (.agg [.int .i64 0, .int .i64 0, .int .i64 0, .str ([]), .slice false [], .slice false [], .str ([]), .str ([]), .slice false [], .slice false []]) (ad.aX m [(r, .cells [.slice false (l.map cl), .int .i64 a, .int .i64 n, .err 115 b3, .int .i64 cy])])
 obtain ⟨rfl,rfl⟩:=Bu aA
 exact U
set_option maxHeartbeats 2000000 in
theorem Vr (l:List Tok) (n a e q:Int) (k:Nat) (d:Int) (r:Nat) (aQ:∀a e q d:Int,d=7- (k:Int)→0≤a→a≤l.length→0≤e→∀(r:Nat) (m:ad),fx [r] m→cY m→∀(K:R→ad→Prop),(∀bR cw b9 dA,bY l (cQ l n k a) bR a e q cw b9 dA→K (e7 bR) (ad.aX m [(r, .cells [.slice false (l.map cl), .int .i64 cw, .int .i64 n, .err 115 b9, .int .i64 dA])]))→bn Tryz.prog 127 [.ptr ⟨r,0,none⟩, .int .i64 d] (ad.aX m [(r, .cells [.slice false (l.map cl), .int .i64 a, .int .i64 n, .err 115 e, .int .i64 q])]) K) (ar:l.length≤5000) (aq:0≤a) (aH:a≤l.length) (he:0≤e) (aA:e=0) (aj:k≤7) (aY:d+1=7- (k:Int)) (m:ad) (gd:fx [r] m) (K:R→ad→Prop) (aJ:cY m) (U:∀bR cw b9 dA,bY l (j9 (cQ l n k) l n a) bR a e q cw b9 dA→K (e7 bR) (ad.aX m [(r, .cells [.slice false (l.map cl), .int .i64 cw, .int .i64 n, .err 115 b9, .int .i64 dA])])):bn Tryz.prog 180 [.ptr ⟨r,0,none⟩, .int .i64 d] (ad.aX m [(r, .cells [.slice false (l.map cl), .int .i64 a, .int .i64 n, .err 115 e, .int .i64 q])]) K:=by
 refine enter (c:=cP [] [] [] [18999] [18] [r]) (vs:=[.loc 0 0, .aK (.int .i64 d)]) (L:=[bP l n a e q]) (m:=m) false cc Tryz.mixed Tryz.func180 rfl (k:=2) (by show cJ [18999] _ _ _=true;decide+kernel) rfl (gd.jq rfl) ?_
 refine aZ ?_
 refine dK 115 [0] (σ:=(Unit) ⊕ (Unit)) (Sum.elim (fun _=>e=0∧cT l 1 ([110,117,108,108]:List UInt8) a=true) (fun _=>e=0→cT l 1 ([110,117,108,108]:List UInt8) a=false)) (Sum.elim (fun _=> .b (.lit true)) (fun _=> .b (.lit false))) (Sum.elim (fun _=>[bP l n (a+1) e q]) (fun _=>[bP l n a e q])) rfl (fun x=>by rcases x with _|_<;>rfl) (fun bs az gd ao K U=>iT l n a e q 1 ([110,117,108,108]:List UInt8) (bs.getD 0 0) ar (by omega) (by omega) (by omega) az gd K (fun z w=>U (.inl ()) ⟨z,w⟩) (fun z=>U (.inr ()) z)) ?_
 rintro (_|_) b5
 · try dsimp only [Sum.elim_inl,Sum.elim_inr] at b5
   dsimp only [Sum.elim_inl,Sum.elim_inr]
   have yQ:=kG b5.2
   refine rt rfl fun _=>?_
   show K (.agg [.int .i64 1, .int .i64 0, .int .i64 0, .str ([]), .slice false [], .slice false [], .str ([]), .str ([]), .slice false [], .slice false []]) (ad.aX m [(r, .cells [.slice false (l.map cl), .int .i64 (a+1), .int .i64 n, .err 115 e, .int .i64 q])])
   refine U (hJ cK) _ _ _ ?_
   rw [j9,if_pos b5.2]
   exact bY.one yQ aA
 try dsimp only [Sum.elim_inl,Sum.elim_inr] at b5
 dsimp only [Sum.elim_inl,Sum.elim_inr]
 refine dK 115 [0] (σ:=(Unit) ⊕ (Unit)) (Sum.elim (fun _=>e=0∧cT l 1 ([116,114,117,101]:List UInt8) a=true) (fun _=>e=0→cT l 1 ([116,114,117,101]:List UInt8) a=false)) (Sum.elim (fun _=> .b (.lit true)) (fun _=> .b (.lit false))) (Sum.elim (fun _=>[bP l n (a+1) e q]) (fun _=>[bP l n a e q])) rfl (fun x=>by rcases x with _|_<;>rfl) (fun bs az gd ao K U=>iT l n a e q 1 ([116,114,117,101]:List UInt8) (bs.getD 0 0) ar (by omega) (by omega) (by omega) az gd K (fun z w=>U (.inl ()) ⟨z,w⟩) (fun z=>U (.inr ()) z)) ?_
 rintro (_|_) eO
 · try dsimp only [Sum.elim_inl,Sum.elim_inr] at eO
   dsimp only [Sum.elim_inl,Sum.elim_inr]
   have K6:=kG eO.2
   refine rt rfl fun _=>?_
   show K (.agg [.int .i64 1, .int .i64 3, .int .i64 1, .str ([]), .slice false [], .slice false [], .str ([]), .str ([]), .slice false [], .slice false []]) (ad.aX m [(r, .cells [.slice false (l.map cl), .int .i64 (a+1), .int .i64 n, .err 115 e, .int .i64 q])])
   refine U (hJ (.mk 3 1 [] [] [])) _ _ _ ?_
   rw [j9,if_neg (ew (b5 aA)),if_pos eO.2]
   exact bY.one K6 aA
 try dsimp only [Sum.elim_inl,Sum.elim_inr] at eO
 dsimp only [Sum.elim_inl,Sum.elim_inr]
 refine dK 115 [0] (σ:=(Unit) ⊕ (Unit)) (Sum.elim (fun _=>e=0∧cT l 1 ([102,97,108,115,101]:List UInt8) a=true) (fun _=>e=0→cT l 1 ([102,97,108,115,101]:List UInt8) a=false)) (Sum.elim (fun _=> .b (.lit true)) (fun _=> .b (.lit false))) (Sum.elim (fun _=>[bP l n (a+1) e q]) (fun _=>[bP l n a e q])) rfl (fun x=>by rcases x with _|_<;>rfl) (fun bs az gd ao K U=>iT l n a e q 1 ([102,97,108,115,101]:List UInt8) (bs.getD 0 0) ar (by omega) (by omega) (by omega) az gd K (fun z w=>U (.inl ()) ⟨z,w⟩) (fun z=>U (.inr ()) z)) ?_
 rintro (_|_) fF
 · try dsimp only [Sum.elim_inl,Sum.elim_inr] at fF
   dsimp only [Sum.elim_inl,Sum.elim_inr]
   have vW:=kG fF.2
   refine rt rfl fun _=>?_
   show K (.agg [.int .i64 1, .int .i64 3, .int .i64 0, .str ([]), .slice false [], .slice false [], .str ([]), .str ([]), .slice false [], .slice false []]) (ad.aX m [(r, .cells [.slice false (l.map cl), .int .i64 (a+1), .int .i64 n, .err 115 e, .int .i64 q])])
   refine U (hJ (.mk 3 0 [] [] [])) _ _ _ ?_
   rw [j9,if_neg (ew (b5 aA)),if_neg (ew (eO aA)),if_pos fF.2]
   exact bY.one vW aA
 try dsimp only [Sum.elim_inl,Sum.elim_inr] at fF
 dsimp only [Sum.elim_inl,Sum.elim_inr]
 refine dK 115 [0] (σ:=(Unit) ⊕ (Unit)) (Sum.elim (fun _=>e=0∧cT l 1 ([105,110]:List UInt8) a=true) (fun _=>e=0→cT l 1 ([105,110]:List UInt8) a=false)) (Sum.elim (fun _=> .b (.lit true)) (fun _=> .b (.lit false))) (Sum.elim (fun _=>[bP l n (a+1) e q]) (fun _=>[bP l n a e q])) rfl (fun x=>by rcases x with _|_<;>rfl) (fun bs az gd ao K U=>iT l n a e q 1 ([105,110]:List UInt8) (bs.getD 0 0) ar (by omega) (by omega) (by omega) az gd K (fun z w=>U (.inl ()) ⟨z,w⟩) (fun z=>U (.inr ()) z)) ?_
 rintro (_|_) gC
 · try dsimp only [Sum.elim_inl,Sum.elim_inr] at gC
   dsimp only [Sum.elim_inl,Sum.elim_inr]
   have K7:=kG gC.2
   refine dK 115 [0] (σ:=ak×Int×Int×Int) (fun ⟨nI,k7,h2,iU⟩=>(bY l (eL l n 4 ([46]:List UInt8) (a+1)) nI (a+1) e q k7 h2 iU)∧(h2≠0→nI=[])) (fun ⟨nI,k7,h2,iU⟩=>bf nI) (fun ⟨nI,k7,h2,iU⟩=>[bP l n k7 h2 iU]) rfl (fun _=>rfl) (fun bs az gd ao K U=>nG l n (a+1) e q 4 ([46]:List UInt8) (bs.getD 0 0) ar (by omega) (by omega) (by omega) az gd K (fun fJ de df dh ba aA=>U (fJ,de,df,dh) ⟨ba,aA⟩)) ?_
   rintro ⟨nI,k7,h2,iU⟩ h3
   dsimp only at h3
   obtain ⟨h3,Vs⟩:=h3
   have Vt:=h3.bD
   have Vu:=h3.ab
   have Vv:=h3.dd
   refine dK 115 [0] (σ:=ak×Int×Int×Int) (fun ⟨mW,h4,hP,h5⟩=>bY l (eL l n 1 [] k7) mW k7 h2 iU h4 hP h5) (fun ⟨mW,h4,hP,h5⟩=>bf mW) (fun ⟨mW,h4,hP,h5⟩=>[bP l n h4 hP h5]) rfl (fun _=>rfl) (fun bs az gd ao K U=>yR l n k7 h2 iU (bs.getD 0 0) ar (by omega) (by omega) (by omega) az gd K (fun fJ de df dh ba=>U (fJ,de,df,dh) ba)) ?_
   rintro ⟨mW,h4,hP,h5⟩ iF
   dsimp only at iF
   have Fl:=iF.bD
   have Fm:=iF.ab
   have Fo:=iF.dd
   refine rt rfl fun _=>?_
   show K (.agg [.int .i64 2, .int .i64 0, .int .i64 0, .str ([]), .slice false [], .slice false [], .str mW, .str ([]), .slice false [], .slice false []]) (ad.aX m [(r, .cells [.slice false (l.map cl), .int .i64 h4, .int .i64 n, .err 115 hP, .int .i64 h5])])
   refine U (.mk 2 cK mW [] [] []) _ _ _ ?_
   rw [j9,if_neg (ew (b5 aA)),if_neg (ew (eO aA)),if_neg (ew (fF aA)),if_pos gC.2]
   exact bY.from aA (by omega) (h3.bind (iF.map fun s=>aD.mk 2 cK s [] [] []))
 try dsimp only [Sum.elim_inl,Sum.elim_inr] at gC
 dsimp only [Sum.elim_inl,Sum.elim_inr]
 refine dK 115 [0] (σ:=(Unit) ⊕ (Unit)) (Sum.elim (fun _=>e=0∧cT l 1 ([114,101,115]:List UInt8) a=true) (fun _=>e=0→cT l 1 ([114,101,115]:List UInt8) a=false)) (Sum.elim (fun _=> .b (.lit true)) (fun _=> .b (.lit false))) (Sum.elim (fun _=>[bP l n (a+1) e q]) (fun _=>[bP l n a e q])) rfl (fun x=>by rcases x with _|_<;>rfl) (fun bs az gd ao K U=>iT l n a e q 1 ([114,101,115]:List UInt8) (bs.getD 0 0) ar (by omega) (by omega) (by omega) az gd K (fun z w=>U (.inl ()) ⟨z,w⟩) (fun z=>U (.inr ()) z)) ?_
 rintro (_|_) ka
 · try dsimp only [Sum.elim_inl,Sum.elim_inr] at ka
   dsimp only [Sum.elim_inl,Sum.elim_inr]
   have aan:=kG ka.2
   refine dK 115 [0] (σ:=ak×ak×Int×Int×Int) (fun ⟨tX,tY,vX,vY,vZ⟩=>bY l (rr l n (a+1)) (tX,tY) (a+1) e q vX vY vZ) (fun ⟨tX,tY,vX,vY,vZ⟩=> .aK (.tuple [.str tX, .str tY])) (fun ⟨tX,tY,vX,vY,vZ⟩=>[bP l n vX vY vZ]) rfl (fun _=>rfl) (fun bs az gd ao K U=>KR l n (a+1) e q (bs.getD 0 0) ar (by omega) (by omega) (by omega) az gd K (fun fJ Fp de df dh ba=>U (fJ,Fp,de,df,dh) ba)) ?_
   rintro ⟨tX,tY,vX,vY,vZ⟩ jv
   dsimp only at jv
   have aao:=jv.bD
   have aap:=jv.ab
   have aaq:=jv.dd
   refine rt rfl fun _=>?_
   show K (.agg [.int .i64 3, .int .i64 0, .int .i64 0, .str ([]), .slice false [], .slice false [], .str tX, .str tY, .slice false [], .slice false []]) (ad.aX m [(r, .cells [.slice false (l.map cl), .int .i64 vX, .int .i64 n, .err 115 vY, .int .i64 vZ])])
   refine U (.mk 3 cK tX tY [] []) _ _ _ ?_
   rw [j9,if_neg (ew (b5 aA)),if_neg (ew (eO aA)),if_neg (ew (fF aA)),if_neg (ew (gC aA)),if_pos ka.2]
   exact bY.from aA (by omega) (jv.map fun st=>aD.mk 3 cK st.1 st.2 [] [])
 try dsimp only [Sum.elim_inl,Sum.elim_inr] at ka
 dsimp only [Sum.elim_inl,Sum.elim_inr]
 refine dK 115 [0] (σ:=(Unit) ⊕ (Unit)) (Sum.elim (fun _=>e=0∧cT l 1 ([115,116,97,99,107]:List UInt8) a=true) (fun _=>e=0→cT l 1 ([115,116,97,99,107]:List UInt8) a=false)) (Sum.elim (fun _=> .b (.lit true)) (fun _=> .b (.lit false))) (Sum.elim (fun _=>[bP l n (a+1) e q]) (fun _=>[bP l n a e q])) rfl (fun x=>by rcases x with _|_<;>rfl) (fun bs az gd ao K U=>iT l n a e q 1 ([115,116,97,99,107]:List UInt8) (bs.getD 0 0) ar (by omega) (by omega) (by omega) az gd K (fun z w=>U (.inl ()) ⟨z,w⟩) (fun z=>U (.inr ()) z)) ?_
 rintro (_|_) lv
 · try dsimp only [Sum.elim_inl,Sum.elim_inr] at lv
   dsimp only [Sum.elim_inl,Sum.elim_inr]
   have aar:=kG lv.2
   refine dK 115 [0] (σ:=ak×ak×Int×Int×Int) (fun ⟨nJ,tZ,lX,mv,mX⟩=>bY l (rr l n (a+1)) (nJ,tZ) (a+1) e q lX mv mX) (fun ⟨nJ,tZ,lX,mv,mX⟩=> .aK (.tuple [.str nJ, .str tZ])) (fun ⟨nJ,tZ,lX,mv,mX⟩=>[bP l n lX mv mX]) rfl (fun _=>rfl) (fun bs az gd ao K U=>KR l n (a+1) e q (bs.getD 0 0) ar (by omega) (by omega) (by omega) az gd K (fun fJ Fp de df dh ba=>U (fJ,Fp,de,df,dh) ba)) ?_
   rintro ⟨nJ,tZ,lX,mv,mX⟩ kb
   dsimp only at kb
   have Vw:=kb.bD
   have Vx:=kb.ab
   have Vy:=kb.dd
   refine rt rfl fun _=>?_
   show K (.agg [.int .i64 4, .int .i64 0, .int .i64 0, .str ([]), .slice false [], .slice false [], .str nJ, .str tZ, .slice false [], .slice false []]) (ad.aX m [(r, .cells [.slice false (l.map cl), .int .i64 lX, .int .i64 n, .err 115 mv, .int .i64 mX])])
   refine U (.mk 4 cK nJ tZ [] []) _ _ _ ?_
   rw [j9,if_neg (ew (b5 aA)),if_neg (ew (eO aA)),if_neg (ew (fF aA)),if_neg (ew (gC aA)),if_neg (ew (ka aA)),if_pos lv.2]
   exact bY.from aA (by omega) (kb.map fun st=>aD.mk 4 cK st.1 st.2 [] [])
 try dsimp only [Sum.elim_inl,Sum.elim_inr] at lv
 dsimp only [Sum.elim_inl,Sum.elim_inr]
 refine dK 115 [0] (σ:=(Unit) ⊕ (Unit)) (Sum.elim (fun _=>e=0∧cT l 1 ([103,101,116]:List UInt8) a=true) (fun _=>e=0→cT l 1 ([103,101,116]:List UInt8) a=false)) (Sum.elim (fun _=> .b (.lit true)) (fun _=> .b (.lit false))) (Sum.elim (fun _=>[bP l n (a+1) e q]) (fun _=>[bP l n a e q])) rfl (fun x=>by rcases x with _|_<;>rfl) (fun bs az gd ao K U=>iT l n a e q 1 ([103,101,116]:List UInt8) (bs.getD 0 0) ar (by omega) (by omega) (by omega) az gd K (fun z w=>U (.inl ()) ⟨z,w⟩) (fun z=>U (.inr ()) z)) ?_
 rintro (_|_) lY
 · try dsimp only [Sum.elim_inl,Sum.elim_inr] at lY
   dsimp only [Sum.elim_inl,Sum.elim_inr]
   have aas:=kG lY.2
   refine an (by omega) ?_
   refine dK 115 [0] (σ:=aD×Int×Int×Int) (fun ⟨eM,iV,jw,jO⟩=>bY l (cQ l n k (a+1)) eM (a+1) e q iV jw jO) (fun ⟨eM,iV,jw,jO⟩=>k6 eM) (fun ⟨eM,iV,jw,jO⟩=>[bP l n iV jw jO]) rfl (fun _=>rfl) (fun bs az gd ao K U=>aQ (a+1) e q (d+1) (by omega) (by omega) (by omega) (by omega) (bs.getD 0 0) az gd (cY.up ao aJ) K (fun gY de df dh ba=>U (gY,de,df,dh) ba)) ?_
   rintro ⟨eM,iV,jw,jO⟩ k8
   dsimp only at k8
   have K8:=k8.bD
   have K9:=k8.ab
   have La:=k8.dd
   refine lN cc Tryz.mixed (σ:=Int×Int×Int×ak) (.f 0 (.o 1 (.s 2 (.s 3 (.s 4 (.s 5 .d)))) (.o 2 (.o 1 (.s 3 (.s 4 (.s 5 .d))) (.o 3 (.s 1 (.s 4 (.s 5 .d))) .z)) .z))) [] [4] 3 (fun ⟨a9,eP,eU,v7⟩=>([(4, .loc 1 0)],[bP l n a9 eP eU, .cells [aw 10,aw 0,aw 0,bf ([]), .own [], .own [],bf v7,bf ([]),bj [.agg [.int .i64 eM.kind, .int .i64 eM.v.kind, .int .i64 eM.v.n, .str eM.v.s, .slice false (eM.v.l.map cm), .slice false (eM.v.f.map bB), .str eM.s, .str eM.t, .slice false (eM.a.map dv), .slice false (eM.n.map cf)]], .own []], .cells [aw eM.kind,aw eM.v.kind,aw eM.v.n,bf eM.v.s,bj (eM.v.l.map cm),bj (eM.v.f.map bB),bf eM.s,bf eM.t,bj (eM.a.map dv),bj (eM.n.map cf)]],m)) (fun ⟨a9,eP,eU,v7⟩=>bY l (eL l n 1 [] iV) v7 iV jw jO a9 eP eU) (by decide+kernel) ?_ ?_
   · rintro ⟨a9,eP,eU,v7⟩ Lb
     try dsimp only at Lb
     refine rt rfl fun _=>?_
     show K (.agg [.int .i64 10, .int .i64 0, .int .i64 0, .str ([]), .slice false [], .slice false [], .str v7, .str ([]), .slice false [.agg [.int .i64 eM.kind, .int .i64 eM.v.kind, .int .i64 eM.v.n, .str eM.v.s, .slice false (eM.v.l.map cm), .slice false (eM.v.f.map bB), .str eM.s, .str eM.t, .slice false (eM.a.map dv), .slice false (eM.n.map cf)]], .slice false []]) (ad.aX m [(r, .cells [.slice false (l.map cl), .int .i64 a9, .int .i64 n, .err 115 eP, .int .i64 eU])])
     refine e9 (U (.mk 10 cK v7 [] [eM] []) _ _ _ ?_) ?_
     · rw [j9,if_neg (ew (b5 aA)),if_neg (ew (eO aA)),if_neg (ew (fF aA)),if_neg (ew (gC aA)),if_neg (ew (ka aA)),if_neg (ew (lv aA)),if_pos lY.2]
       exact bY.from aA (by omega) (k8.bind (Lb.map fun s=>aD.mk 10 cK s [] [eM] []))
     · simp only [e7,aD.a,List.map_cons,List.map_nil,hI];rfl
   repeat' first
    |refine ⟨(ov,iG,jx,nK),⟨rfl,rfl⟩,mw⟩
    |(refine dK 115 [0] (σ:=ak×Int×Int×Int) (fun ⟨nK,ov,iG,jx⟩=>bY l (eL l n 1 [] iV) nK iV jw jO ov iG jx) (fun ⟨nK,ov,iG,jx⟩=>bf nK) (fun ⟨nK,ov,iG,jx⟩=>[bP l n ov iG jx]) rfl (fun _=>rfl) (fun bs az gd ao K U=>yR l n iV jw jO (bs.getD 0 0) ar (by omega) (by omega) (by omega) az gd K (fun fJ de df dh ba=>U (fJ,de,df,dh) ba)) ?_;rintro ⟨nK,ov,iG,jx⟩ mw;dsimp only at mw;have Vz:=mw.bD;have VA:=mw.ab;have VB:=mw.dd)
    |refine ⟨?_,?_,trivial⟩
 try dsimp only [Sum.elim_inl,Sum.elim_inr] at lY
 dsimp only [Sum.elim_inl,Sum.elim_inr]
 refine dK 115 [0] (σ:=Int×Int) (fun ⟨jP,kc⟩=>(e=0→jP=5∧kc=fp l n a)∧(e≠0→jP=e∧kc=q)∧0<jP) (fun ⟨jP,kc⟩=> .ez []) (fun ⟨jP,kc⟩=>[bP l n a jP kc]) rfl (fun _=>rfl) (fun bs az gd ao K U=>sG l n a e q 5 (bs.getD 0 0) (by decide) ar (by omega) (by omega) (by omega) az gd K (fun z=>U (5,fp l n a) ⟨fun _=>⟨rfl,rfl⟩,fun y=>absurd z y,by decide⟩) (fun z=>U (e,q) ⟨fun y=>absurd y z,fun _=>⟨rfl,rfl⟩,by omega⟩)) ?_
 rintro ⟨jP,kc⟩ nL
 dsimp only at nL
 obtain ⟨VC,VD,VE⟩:=nL
 refine rt rfl fun _=>?_
 show K (.agg [.int .i64 0, .int .i64 0, .int .i64 0, .str ([]), .slice false [], .slice false [], .str ([]), .str ([]), .slice false [], .slice false []]) (ad.aX m [(r, .cells [.slice false (l.map cl), .int .i64 a, .int .i64 n, .err 115 jP, .int .i64 kc])])
 refine U hf _ _ _ ?_
 rw [j9,if_neg (ew (b5 aA)),if_neg (ew (eO aA)),if_neg (ew (fF aA)),if_neg (ew (gC aA)),if_neg (ew (ka aA)),if_neg (ew (lv aA)),if_neg (ew (lY aA))]
 exact bY.bad _ aH VC VD VE
end Go.Proofs
end
section
namespace Go.Proofs
open Go Go.bh Go.bS
set_option maxRecDepth 100000
set_option maxHeartbeats 2000000 in
theorem VF (l:List Tok) (n a e q:Int) (k:Nat) (d:Int) (r:Nat) (aQ:∀a e q d:Int,d=7- (k:Int)→0≤a→a≤l.length→0≤e→∀(r:Nat) (m:ad),fx [r] m→cY m→∀(K:R→ad→Prop),(∀bR cw b9 dA,bY l (cQ l n k a) bR a e q cw b9 dA→K (e7 bR) (ad.aX m [(r, .cells [.slice false (l.map cl), .int .i64 cw, .int .i64 n, .err 115 b9, .int .i64 dA])]))→bn Tryz.prog 127 [.ptr ⟨r,0,none⟩, .int .i64 d] (ad.aX m [(r, .cells [.slice false (l.map cl), .int .i64 a, .int .i64 n, .err 115 e, .int .i64 q])]) K) (ar:l.length≤5000) (aq:0≤a) (aH:a≤l.length) (he:0≤e) (aj:k≤7) (aY:d+1=7- (k:Int)) (m:ad) (gd:fx [r] m) (K:R→ad→Prop) (aJ:cY m) (U:∀bR cw b9 dA,bY l (pZ (cQ l n k) l n a) bR a e q cw b9 dA→K (e7 bR) (ad.aX m [(r, .cells [.slice false (l.map cl), .int .i64 cw, .int .i64 n, .err 115 b9, .int .i64 dA])])):bn Tryz.prog 177 [.ptr ⟨r,0,none⟩, .int .i64 d] (ad.aX m [(r, .cells [.slice false (l.map cl), .int .i64 a, .int .i64 n, .err 115 e, .int .i64 q])]) K:=by
 refine enter (c:=cP [1000013] [] [] [9999,11999] [9,11] [r]) (vs:=[.loc 0 0, .aK (.int .i64 d)]) (L:=[bP l n a e q]) (m:=m) false cc Tryz.mixed Tryz.func177 rfl (k:=2) (by show cJ [9999,11999] _ _ _=true;decide+kernel) rfl (gd.jq rfl) ?_
 refine an (by omega) ?_
 refine dK 115 [0] (σ:=aD×Int×Int×Int) (fun ⟨br,cj,b3,cy⟩=>bY l (cQ l n k a) br a e q cj b3 cy) (fun ⟨br,cj,b3,cy⟩=>k6 br) (fun ⟨br,cj,b3,cy⟩=>[bP l n cj b3 cy]) rfl (fun _=>rfl) (fun bs az gd ao K U=>aQ a e q (d+1) (by omega) (by omega) (by omega) (by omega) (bs.getD 0 0) az gd (cY.up ao aJ) K (fun gY de df dh ba=>U (gY,de,df,dh) ba)) ?_
 rintro ⟨br,cj,b3,cy⟩ b5
 dsimp only at b5
 have yS:=b5.bD
 have pT:=b5.ab
 have yT:=b5.dd
 refine S4 (s:=12) [aw 5,aw 0,aw 0,bf ([]), .own [], .own [],bf ([]),bf ([])] [.own []] [.agg [.int .i64 br.kind, .int .i64 br.v.kind, .int .i64 br.v.n, .str br.v.s, .slice false (br.v.l.map cm), .slice false (br.v.f.map bB), .str br.s, .str br.t, .slice false (br.a.map dv), .slice false (br.n.map cf)]] rfl rfl rfl (by simp only [List.forall_mem_cons];exact ⟨rfl,rfl,rfl,rfl,rfl,rfl,fun _ h=>by cases h⟩) (fun bs X qX=>(by simp only [List.forall_mem_cons];exact ⟨rfl,qX,fun _ h=>by cases h⟩)) (fun _ _ _ _=>rfl) (fun _=>rfl) rfl rfl ?_
 refine aZ ?_
 refine dK 115 [0] (σ:=(Unit) ⊕ (Unit)) (Sum.elim (fun _=>b3=0∧cT l 4 ([43]:List UInt8) cj=true) (fun _=>b3=0→cT l 4 ([43]:List UInt8) cj=false)) (Sum.elim (fun _=> .b (.lit true)) (fun _=> .b (.lit false))) (Sum.elim (fun _=>[bP l n (cj+1) b3 cy]) (fun _=>[bP l n cj b3 cy])) rfl (fun x=>by rcases x with _|_<;>rfl) (fun bs az gd ao K U=>iT l n cj b3 cy 4 ([43]:List UInt8) (bs.getD 0 0) ar (by omega) (by omega) (by omega) az gd K (fun z w=>U (.inl ()) ⟨z,w⟩) (fun z=>U (.inr ()) z)) ?_
 rintro (_|_) eO
 · try dsimp only [Sum.elim_inl,Sum.elim_inr] at eO
   dsimp only [Sum.elim_inl,Sum.elim_inr]
   have K6:=kG eO.2
   refine lN cc Tryz.mixed (σ:=Int×Int×Int×aD) (.f 0 (.f 2 (.f 3 (.o 1 (.s 4 (.s 5 (.s 6 (.s 7 (.f 8 (.s 9 .d)))))) (.o 4 (.o 1 (.s 5 (.s 6 (.s 7 (.f 8 (.s 9 .d))))) (.o 5 (.o 1 (.s 6 (.s 7 (.f 8 (.s 9 .d)))) (.o 6 (.s 1 (.s 7 (.f 8 (.s 9 .d)))) .z)) .z)) .z))))) [] [0,4,6] 4 (fun ⟨a9,eP,eU,e1⟩=>([(0, .loc 0 0),(4, .loc 1 0),(6, .loc 3 0)],[bP l n a9 eP eU, .cells [aw 0,aw 0,aw 0,bf ([]), .own [], .own [],bf ([]),bf ([]), .own [], .own []], .cells [aw br.kind,aw br.v.kind,aw br.v.n,bf br.v.s,bj (br.v.l.map cm),bj (br.v.f.map bB),bf br.s,bf br.t,bj (br.a.map dv),bj (br.n.map cf)], .cells [aw 5,aw 0,aw 0,bf ([]), .own [], .own [],bf ([]),bf ([]), .own ((([br]:List aD)++([e1]:List aD)).map dv), .own []]],m)) (fun ⟨a9,eP,eU,e1⟩=>bY l (cQ l n k (cj+1)) e1 (cj+1) b3 cy a9 eP eU) (by decide+kernel) ?_ ?_
   · rintro ⟨a9,eP,eU,e1⟩ eZ
     try dsimp only at eZ
     have v8:=eZ.bD
     have wa:=eZ.ab
     have wb:=eZ.dd
     refine dK 115 [0] (σ:=ak×Int×Int×Int) (fun ⟨ot,kH,j8,kI⟩=>(bY l (eL l n 4 ([41]:List UInt8) a9) ot a9 eP eU kH j8 kI)∧(j8≠0→ot=[])) (fun ⟨ot,kH,j8,kI⟩=>bf ot) (fun ⟨ot,kH,j8,kI⟩=>[bP l n kH j8 kI]) rfl (fun _=>rfl) (fun bs az gd ao K U=>nG l n a9 eP eU 4 ([41]:List UInt8) (bs.getD 0 0) ar (by omega) (by omega) (by omega) az gd K (fun fJ de df dh ba aA=>U (fJ,de,df,dh) ⟨ba,aA⟩)) ?_
     rintro ⟨ot,kH,j8,kI⟩ gC
     dsimp only at gC
     obtain ⟨gC,aat⟩:=gC
     have KX:=gC.bD
     have KY:=gC.ab
     have KZ:=gC.dd
     refine rt rfl fun _=>?_
     show K (.agg [.int .i64 5, .int .i64 0, .int .i64 0, .str ([]), .slice false [], .slice false [], .str ([]), .str ([]), .slice false ((([br]:List aD)++([e1]:List aD)).map dv), .slice false []]) (ad.aX m [(r, .cells [.slice false (l.map cl), .int .i64 kH, .int .i64 n, .err 115 j8, .int .i64 kI])])
     refine e9 (U (.mk 5 cK [] [] [br,e1] []) _ _ _ ?_) ?_
     · rw [pZ]
       refine b5.bind ?_
       rw [if_pos eO.2]
       exact bY.from eO.1 (by omega) (eZ.bind (gC.map fun _=>aD.mk 5 cK [] [] [br,e1] []))
     · simp only [e7,aD.a,List.map_cons,List.map_nil,List.map_append,List.cons_append,List.nil_append,hI];rfl
   repeat' first
    |refine ⟨(iw,iE,ju,ua),⟨rfl,rfl⟩,fF⟩
    |(refine dK 115 [0] (σ:=aD×Int×Int×Int) (fun ⟨ua,iw,iE,ju⟩=>bY l (cQ l n k (cj+1)) ua (cj+1) b3 cy iw iE ju) (fun ⟨ua,iw,iE,ju⟩=>k6 ua) (fun ⟨ua,iw,iE,ju⟩=>[bP l n iw iE ju]) rfl (fun _=>rfl) (fun bs az gd ao K U=>aQ (cj+1) b3 cy (d+1) (by omega) (by omega) (by omega) (by omega) (bs.getD 0 0) az gd (cY.up ao aJ) K (fun gY de df dh ba=>U (gY,de,df,dh) ba)) ?_;rintro ⟨ua,iw,iE,ju⟩ fF;dsimp only at fF;have KU:=fF.bD;have KV:=fF.ab;have KW:=fF.dd)
    |refine ap dv ([br]:List aD) ([ua]:List aD) (by simp only [List.map_cons,List.map_nil,hI];try rfl) (by simp only [List.map_cons,List.map_nil,hI];try rfl) (fun a=>by rw [hI];exact ⟨rfl,rfl⟩) (by (simp only [List.length_append,List.length_cons,List.length_nil];omega)) ?_
    |refine an (by omega) ?_
    |refine ⟨?_,?_,trivial⟩
 try dsimp only [Sum.elim_inl,Sum.elim_inr] at eO
 dsimp only [Sum.elim_inl,Sum.elim_inr]
 refine dK 115 [0] (σ:=(Unit) ⊕ (Unit)) (Sum.elim (fun _=>b3=0∧cT l 4 ([61,61]:List UInt8) cj=true) (fun _=>b3=0→cT l 4 ([61,61]:List UInt8) cj=false)) (Sum.elim (fun _=> .b (.lit true)) (fun _=> .b (.lit false))) (Sum.elim (fun _=>[bP l n (cj+1) b3 cy]) (fun _=>[bP l n cj b3 cy])) rfl (fun x=>by rcases x with _|_<;>rfl) (fun bs az gd ao K U=>iT l n cj b3 cy 4 ([61,61]:List UInt8) (bs.getD 0 0) ar (by omega) (by omega) (by omega) az gd K (fun z w=>U (.inl ()) ⟨z,w⟩) (fun z=>U (.inr ()) z)) ?_
 rintro (_|_) h3
 · try dsimp only [Sum.elim_inl,Sum.elim_inr] at h3
   dsimp only [Sum.elim_inl,Sum.elim_inr]
   have aau:=kG h3.2
   refine lN cc Tryz.mixed (σ:=Int×Int×Int×aD) (.f 0 (.f 2 (.f 3 (.o 1 (.s 4 (.s 5 (.s 6 (.s 7 (.f 8 (.s 9 .d)))))) (.o 4 (.o 1 (.s 5 (.s 6 (.s 7 (.f 8 (.s 9 .d))))) (.o 5 (.o 1 (.s 6 (.s 7 (.f 8 (.s 9 .d)))) (.o 6 (.s 1 (.s 7 (.f 8 (.s 9 .d)))) .z)) .z)) .z))))) [] [0,4,6] 4 (fun ⟨a9,eP,eU,e1⟩=>([(0, .loc 0 0),(4, .loc 1 0),(6, .loc 3 0)],[bP l n a9 eP eU, .cells [aw 0,aw 0,aw 0,bf ([]), .own [], .own [],bf ([]),bf ([]), .own [], .own []], .cells [aw br.kind,aw br.v.kind,aw br.v.n,bf br.v.s,bj (br.v.l.map cm),bj (br.v.f.map bB),bf br.s,bf br.t,bj (br.a.map dv),bj (br.n.map cf)], .cells [aw 6,aw 0,aw 0,bf ([]), .own [], .own [],bf ([]),bf ([]), .own ((([br]:List aD)++([e1]:List aD)).map dv), .own []]],m)) (fun ⟨a9,eP,eU,e1⟩=>bY l (cQ l n k (cj+1)) e1 (cj+1) b3 cy a9 eP eU) (by decide+kernel) ?_ ?_
   · rintro ⟨a9,eP,eU,e1⟩ eZ
     try dsimp only at eZ
     have v8:=eZ.bD
     have wa:=eZ.ab
     have wb:=eZ.dd
     refine dK 115 [0] (σ:=ak×Int×Int×Int) (fun ⟨wc,ow,nM,ox⟩=>(bY l (eL l n 4 ([41]:List UInt8) a9) wc a9 eP eU ow nM ox)∧(nM≠0→wc=[])) (fun ⟨wc,ow,nM,ox⟩=>bf wc) (fun ⟨wc,ow,nM,ox⟩=>[bP l n ow nM ox]) rfl (fun _=>rfl) (fun bs az gd ao K U=>nG l n a9 eP eU 4 ([41]:List UInt8) (bs.getD 0 0) ar (by omega) (by omega) (by omega) az gd K (fun fJ de df dh ba aA=>U (fJ,de,df,dh) ⟨ba,aA⟩)) ?_
     rintro ⟨wc,ow,nM,ox⟩ ka
     dsimp only at ka
     obtain ⟨ka,aav⟩:=ka
     have VG:=ka.bD
     have VH:=ka.ab
     have VI:=ka.dd
     refine rt rfl fun _=>?_
     show K (.agg [.int .i64 6, .int .i64 0, .int .i64 0, .str ([]), .slice false [], .slice false [], .str ([]), .str ([]), .slice false ((([br]:List aD)++([e1]:List aD)).map dv), .slice false []]) (ad.aX m [(r, .cells [.slice false (l.map cl), .int .i64 ow, .int .i64 n, .err 115 nM, .int .i64 ox])])
     refine e9 (U (.mk 6 cK [] [] [br,e1] []) _ _ _ ?_) ?_
     · rw [pZ]
       refine b5.bind ?_
       rw [if_neg (ew (eO h3.1)),if_pos h3.2]
       exact bY.from h3.1 (by omega) (eZ.bind (ka.map fun _=>aD.mk 6 cK [] [] [br,e1] []))
     · simp only [e7,aD.a,List.map_cons,List.map_nil,List.map_append,List.cons_append,List.nil_append,hI];rfl
   repeat' first
    |refine ⟨(h4,hP,h5,mY),⟨rfl,rfl⟩,iF⟩
    |(refine dK 115 [0] (σ:=aD×Int×Int×Int) (fun ⟨mY,h4,hP,h5⟩=>bY l (cQ l n k (cj+1)) mY (cj+1) b3 cy h4 hP h5) (fun ⟨mY,h4,hP,h5⟩=>k6 mY) (fun ⟨mY,h4,hP,h5⟩=>[bP l n h4 hP h5]) rfl (fun _=>rfl) (fun bs az gd ao K U=>aQ (cj+1) b3 cy (d+1) (by omega) (by omega) (by omega) (by omega) (bs.getD 0 0) az gd (cY.up ao aJ) K (fun gY de df dh ba=>U (gY,de,df,dh) ba)) ?_;rintro ⟨mY,h4,hP,h5⟩ iF;dsimp only at iF;have Fl:=iF.bD;have Fm:=iF.ab;have Fo:=iF.dd)
    |refine ap dv ([br]:List aD) ([mY]:List aD) (by simp only [List.map_cons,List.map_nil,hI];try rfl) (by simp only [List.map_cons,List.map_nil,hI];try rfl) (fun a=>by rw [hI];exact ⟨rfl,rfl⟩) (by (simp only [List.length_append,List.length_cons,List.length_nil];omega)) ?_
    |refine an (by omega) ?_
    |refine ⟨?_,?_,trivial⟩
 try dsimp only [Sum.elim_inl,Sum.elim_inr] at h3
 dsimp only [Sum.elim_inl,Sum.elim_inr]
 refine dK 115 [0] (σ:=(Unit) ⊕ (Unit)) (Sum.elim (fun _=>b3=0∧cT l 4 ([63]:List UInt8) cj=true) (fun _=>b3=0→cT l 4 ([63]:List UInt8) cj=false)) (Sum.elim (fun _=> .b (.lit true)) (fun _=> .b (.lit false))) (Sum.elim (fun _=>[bP l n (cj+1) b3 cy]) (fun _=>[bP l n cj b3 cy])) rfl (fun x=>by rcases x with _|_<;>rfl) (fun bs az gd ao K U=>iT l n cj b3 cy 4 ([63]:List UInt8) (bs.getD 0 0) ar (by omega) (by omega) (by omega) az gd K (fun z w=>U (.inl ()) ⟨z,w⟩) (fun z=>U (.inr ()) z)) ?_
 rintro (_|_) jv
 · try dsimp only [Sum.elim_inl,Sum.elim_inr] at jv
   dsimp only [Sum.elim_inl,Sum.elim_inr]
   have VJ:=kG jv.2
   refine lN cc Tryz.mixed (σ:=Int×Int×Int×aD) (.f 0 (.f 2 (.f 3 (.o 1 (.s 4 (.s 5 (.s 6 (.s 7 (.f 8 (.s 9 .d)))))) (.o 4 (.o 1 (.s 5 (.s 6 (.s 7 (.f 8 (.s 9 .d))))) (.o 5 (.o 1 (.s 6 (.s 7 (.f 8 (.s 9 .d)))) (.o 6 (.s 1 (.s 7 (.f 8 (.s 9 .d)))) .z)) .z)) .z))))) [] [0,1,4,6] 4 (fun ⟨ub,f9,we,ru⟩=>([(0, .loc 0 0),(1,aw d),(4, .loc 1 0),(6, .loc 3 0)],[bP l n ub f9 we, .cells [aw 0,aw 0,aw 0,bf ([]), .own [], .own [],bf ([]),bf ([]), .own [], .own []], .cells [aw br.kind,aw br.v.kind,aw br.v.n,bf br.v.s,bj (br.v.l.map cm),bj (br.v.f.map bB),bf br.s,bf br.t,bj (br.a.map dv),bj (br.n.map cf)], .cells [aw 7,aw 0,aw 0,bf ([]), .own [], .own [],bf ([]),bf ([]), .own ((([br]:List aD)++([ru]:List aD)).map dv), .own []]],m)) (fun ⟨ub,f9,we,ru⟩=>bY l (cQ l n k (cj+1)) ru (cj+1) b3 cy ub f9 we) (by decide+kernel) ?_ ?_
   · rintro ⟨ub,f9,we,ru⟩ rv
     try dsimp only at rv
     have aaw:=rv.bD
     have aax:=rv.ab
     have aay:=rv.dd
     refine dK 115 [0] (σ:=ak×Int×Int×Int) (fun ⟨nJ,lX,mv,mX⟩=>(bY l (eL l n 4 ([58]:List UInt8) ub) nJ ub f9 we lX mv mX)∧(mv≠0→nJ=[])) (fun ⟨nJ,lX,mv,mX⟩=>bf nJ) (fun ⟨nJ,lX,mv,mX⟩=>[bP l n lX mv mX]) rfl (fun _=>rfl) (fun bs az gd ao K U=>nG l n ub f9 we 4 ([58]:List UInt8) (bs.getD 0 0) ar (by omega) (by omega) (by omega) az gd K (fun fJ de df dh ba aA=>U (fJ,de,df,dh) ⟨ba,aA⟩)) ?_
     rintro ⟨nJ,lX,mv,mX⟩ kb
     dsimp only at kb
     obtain ⟨kb,aaz⟩:=kb
     have Vw:=kb.bD
     have Vx:=kb.ab
     have Vy:=kb.dd
     refine lN cc Tryz.mixed (σ:=Int×Int×Int×aD) (.f 0 (.f 2 (.f 3 (.o 1 (.s 4 (.s 5 (.s 6 (.s 7 (.f 8 (.s 9 .d)))))) (.o 4 (.o 1 (.s 5 (.s 6 (.s 7 (.f 8 (.s 9 .d))))) (.o 5 (.o 1 (.s 6 (.s 7 (.f 8 (.s 9 .d)))) (.o 6 (.s 1 (.s 7 (.f 8 (.s 9 .d)))) .z)) .z)) .z))))) [] [0,4,6] 4 (fun ⟨a9,eP,eU,e1⟩=>([(0, .loc 0 0),(4, .loc 1 0),(6, .loc 3 0)],[bP l n a9 eP eU, .cells [aw 0,aw 0,aw 0,bf ([]), .own [], .own [],bf ([]),bf ([]), .own [], .own []], .cells [aw br.kind,aw br.v.kind,aw br.v.n,bf br.v.s,bj (br.v.l.map cm),bj (br.v.f.map bB),bf br.s,bf br.t,bj (br.a.map dv),bj (br.n.map cf)], .cells [aw 7,aw 0,aw 0,bf ([]), .own [], .own [],bf ([]),bf ([]), .own (((([br]:List aD)++([ru]:List aD))++([e1]:List aD)).map dv), .own []]],m)) (fun ⟨a9,eP,eU,e1⟩=>bY l (cQ l n k lX) e1 lX mv mX a9 eP eU) (by decide+kernel) ?_ ?_
     · rintro ⟨a9,eP,eU,e1⟩ eZ
       try dsimp only at eZ
       have v8:=eZ.bD
       have wa:=eZ.ab
       have wb:=eZ.dd
       refine dK 115 [0] (σ:=ak×Int×Int×Int) (fun ⟨wg,iV,jw,jO⟩=>(bY l (eL l n 4 ([41]:List UInt8) a9) wg a9 eP eU iV jw jO)∧(jw≠0→wg=[])) (fun ⟨wg,iV,jw,jO⟩=>bf wg) (fun ⟨wg,iV,jw,jO⟩=>[bP l n iV jw jO]) rfl (fun _=>rfl) (fun bs az gd ao K U=>nG l n a9 eP eU 4 ([41]:List UInt8) (bs.getD 0 0) ar (by omega) (by omega) (by omega) az gd K (fun fJ de df dh ba aA=>U (fJ,de,df,dh) ⟨ba,aA⟩)) ?_
       rintro ⟨wg,iV,jw,jO⟩ k8
       dsimp only at k8
       obtain ⟨k8,aaA⟩:=k8
       have K8:=k8.bD
       have K9:=k8.ab
       have La:=k8.dd
       refine rt rfl fun _=>?_
       show K (.agg [.int .i64 7, .int .i64 0, .int .i64 0, .str ([]), .slice false [], .slice false [], .str ([]), .str ([]), .slice false (((([br]:List aD)++([ru]:List aD))++([e1]:List aD)).map dv), .slice false []]) (ad.aX m [(r, .cells [.slice false (l.map cl), .int .i64 iV, .int .i64 n, .err 115 jw, .int .i64 jO])])
       refine e9 (U (.mk 7 cK [] [] [br,ru,e1] []) _ _ _ ?_) ?_
       · rw [pZ]
         refine b5.bind ?_
         rw [if_neg (ew (eO jv.1)),if_neg (ew (h3 jv.1)),if_pos jv.2]
         exact bY.from jv.1 (by omega) (rv.bind (kb.bind (eZ.bind (k8.map fun _=>aD.mk 7 cK [] [] [br,ru,e1] []))))
       · simp only [e7,aD.a,List.map_cons,List.map_nil,List.map_append,List.cons_append,List.nil_append,hI];rfl
     repeat' first
      |refine ⟨(oy,oz,oA,iW),⟨rfl,rfl⟩,lY⟩
      |(refine dK 115 [0] (σ:=aD×Int×Int×Int) (fun ⟨iW,oy,oz,oA⟩=>bY l (cQ l n k lX) iW lX mv mX oy oz oA) (fun ⟨iW,oy,oz,oA⟩=>k6 iW) (fun ⟨iW,oy,oz,oA⟩=>[bP l n oy oz oA]) rfl (fun _=>rfl) (fun bs az gd ao K U=>aQ lX mv mX (d+1) (by omega) (by omega) (by omega) (by omega) (bs.getD 0 0) az gd (cY.up ao aJ) K (fun gY de df dh ba=>U (gY,de,df,dh) ba)) ?_;rintro ⟨iW,oy,oz,oA⟩ lY;dsimp only at lY;have VK:=lY.bD;have VL:=lY.ab;have VM:=lY.dd)
      |refine ap dv (([br]:List aD)++([ru]:List aD)) ([iW]:List aD) rfl (by simp only [List.map_cons,List.map_nil,hI];try rfl) (fun a=>by rw [hI];exact ⟨rfl,rfl⟩) (by (simp only [List.length_append,List.length_cons,List.length_nil];omega)) ?_
      |refine an (by omega) ?_
      |refine ⟨?_,?_,trivial⟩
   repeat' first
    |refine ⟨(oB,oC,oD,iX),⟨rfl,rfl⟩,lv⟩
    |(refine dK 115 [0] (σ:=aD×Int×Int×Int) (fun ⟨iX,oB,oC,oD⟩=>bY l (cQ l n k (cj+1)) iX (cj+1) b3 cy oB oC oD) (fun ⟨iX,oB,oC,oD⟩=>k6 iX) (fun ⟨iX,oB,oC,oD⟩=>[bP l n oB oC oD]) rfl (fun _=>rfl) (fun bs az gd ao K U=>aQ (cj+1) b3 cy (d+1) (by omega) (by omega) (by omega) (by omega) (bs.getD 0 0) az gd (cY.up ao aJ) K (fun gY de df dh ba=>U (gY,de,df,dh) ba)) ?_;rintro ⟨iX,oB,oC,oD⟩ lv;dsimp only at lv;have VN:=lv.bD;have VO:=lv.ab;have VP:=lv.dd)
    |refine ap dv ([br]:List aD) ([iX]:List aD) (by simp only [List.map_cons,List.map_nil,hI];try rfl) (by simp only [List.map_cons,List.map_nil,hI];try rfl) (fun a=>by rw [hI];exact ⟨rfl,rfl⟩) (by (simp only [List.length_append,List.length_cons,List.length_nil];omega)) ?_
    |refine an (by omega) ?_
    |refine ⟨?_,?_,trivial⟩
 try dsimp only [Sum.elim_inl,Sum.elim_inr] at jv
 dsimp only [Sum.elim_inl,Sum.elim_inr]
 refine dK 115 [0] (σ:=Int×Int) (fun ⟨iG,jx⟩=>(b3=0→iG=5∧jx=fp l n cj)∧(b3≠0→iG=b3∧jx=cy)∧0<iG) (fun ⟨iG,jx⟩=> .ez []) (fun ⟨iG,jx⟩=>[bP l n cj iG jx]) rfl (fun _=>rfl) (fun bs az gd ao K U=>sG l n cj b3 cy 5 (bs.getD 0 0) (by decide) ar (by omega) (by omega) (by omega) az gd K (fun z=>U (5,fp l n cj) ⟨fun _=>⟨rfl,rfl⟩,fun y=>absurd z y,by decide⟩) (fun z=>U (b3,cy) ⟨fun y=>absurd y z,fun _=>⟨rfl,rfl⟩,by omega⟩)) ?_
 rintro ⟨iG,jx⟩ mw
 dsimp only at mw
 obtain ⟨VQ,Lc,VR⟩:=mw
 refine lN cc Tryz.mixed (σ:=Int×Int×Int×aD) (.f 0 (.f 2 (.f 3 (.o 1 (.s 4 (.s 5 (.s 6 (.s 7 (.f 8 (.s 9 .d)))))) (.o 4 (.o 1 (.s 5 (.s 6 (.s 7 (.f 8 (.s 9 .d))))) (.o 5 (.o 1 (.s 6 (.s 7 (.f 8 (.s 9 .d)))) (.o 6 (.s 1 (.s 7 (.f 8 (.s 9 .d)))) .z)) .z)) .z))))) [] [0,4,6] 4 (fun ⟨a9,eP,eU,e1⟩=>([(0, .loc 0 0),(4, .loc 1 0),(6, .loc 3 0)],[bP l n a9 eP eU, .cells [aw 0,aw 0,aw 0,bf ([]), .own [], .own [],bf ([]),bf ([]), .own [], .own []], .cells [aw br.kind,aw br.v.kind,aw br.v.n,bf br.v.s,bj (br.v.l.map cm),bj (br.v.f.map bB),bf br.s,bf br.t,bj (br.a.map dv),bj (br.n.map cf)], .cells [aw 5,aw 0,aw 0,bf ([]), .own [], .own [],bf ([]),bf ([]), .own ((([br]:List aD)++([e1]:List aD)).map dv), .own []]],m)) (fun ⟨a9,eP,eU,e1⟩=>bY l (cQ l n k cj) e1 cj iG jx a9 eP eU) (by decide+kernel) ?_ ?_
 · rintro ⟨a9,eP,eU,e1⟩ eZ
   try dsimp only at eZ
   have v8:=eZ.bD
   have wa:=eZ.ab
   have wb:=eZ.dd
   refine dK 115 [0] (σ:=ak×Int×Int×Int) (fun ⟨wh,wi,uc,wj⟩=>(bY l (eL l n 4 ([41]:List UInt8) a9) wh a9 eP eU wi uc wj)∧(uc≠0→wh=[])) (fun ⟨wh,wi,uc,wj⟩=>bf wh) (fun ⟨wh,wi,uc,wj⟩=>[bP l n wi uc wj]) rfl (fun _=>rfl) (fun bs az gd ao K U=>nG l n a9 eP eU 4 ([41]:List UInt8) (bs.getD 0 0) ar (by omega) (by omega) (by omega) az gd K (fun fJ de df dh ba aA=>U (fJ,de,df,dh) ⟨ba,aA⟩)) ?_
   rintro ⟨wh,wi,uc,wj⟩ ud
   dsimp only at ud
   obtain ⟨ud,aaB⟩:=ud
   have aaC:=ud.bD
   have aaD:=ud.ab
   have aaE:=ud.dd
   refine rt rfl fun _=>?_
   show K (.agg [.int .i64 5, .int .i64 0, .int .i64 0, .str ([]), .slice false [], .slice false [], .str ([]), .str ([]), .slice false ((([br]:List aD)++([e1]:List aD)).map dv), .slice false []]) (ad.aX m [(r, .cells [.slice false (l.map cl), .int .i64 wi, .int .i64 n, .err 115 uc, .int .i64 wj])])
   refine e9 (U (.mk 5 cK [] [] [br,e1] []) _ _ _ ?_) ?_
   · obtain ⟨rfl,rfl,rfl⟩:=eZ.st (by omega)
     obtain ⟨rfl,rfl,rfl⟩:=ud.st (by omega)
     rw [pZ]
     refine b5.bind ?_
     by_cases aA:b3=0
     · rw [if_neg (ew (eO aA)),if_neg (ew (h3 aA)),if_neg (ew (jv aA))]
       exact bY.bad _ (by omega) VQ Lc VR
     · obtain ⟨rfl,rfl⟩:=Lc aA
       exact bY.stuck aA (by omega) (by omega)
   · simp only [e7,aD.a,List.map_cons,List.map_nil,List.map_append,List.cons_append,List.nil_append,hI];rfl
 repeat' first
  |refine ⟨(oE,jP,kc,iY),⟨rfl,rfl⟩,nL⟩
  |(refine dK 115 [0] (σ:=aD×Int×Int×Int) (fun ⟨iY,oE,jP,kc⟩=>bY l (cQ l n k cj) iY cj iG jx oE jP kc) (fun ⟨iY,oE,jP,kc⟩=>k6 iY) (fun ⟨iY,oE,jP,kc⟩=>[bP l n oE jP kc]) rfl (fun _=>rfl) (fun bs az gd ao K U=>aQ cj iG jx (d+1) (by omega) (by omega) (by omega) (by omega) (bs.getD 0 0) az gd (cY.up ao aJ) K (fun gY de df dh ba=>U (gY,de,df,dh) ba)) ?_;rintro ⟨iY,oE,jP,kc⟩ nL;dsimp only at nL;have VS:=nL.bD;have VT:=nL.ab;have VU:=nL.dd)
  |refine ap dv ([br]:List aD) ([iY]:List aD) (by simp only [List.map_cons,List.map_nil,hI];try rfl) (by simp only [List.map_cons,List.map_nil,hI];try rfl) (fun a=>by rw [hI];exact ⟨rfl,rfl⟩) (by (simp only [List.length_append,List.length_cons,List.length_nil];omega)) ?_
  |refine an (by omega) ?_
  |refine ⟨?_,?_,trivial⟩
end Go.Proofs
end
section
namespace Go.Proofs
open Go Go.bh Go.bS
set_option maxRecDepth 100000
structure hz {p0:Type} (P:db p0) (e q:Int) (Q:db p0):Prop where
 y:e=0→P=Q
 z:e≠0→P.f=e∧P.p=q
section
variable {l:List Tok} {α p0:Type} {P q7:db p0} {p:db α} {x:α} {dt ax cX a2 aI cI f s:Int}
theorem hz.step [Inhabited p0] {g:α→Int→db p0} (c:hz P ax cX (p.bind g)) (o:bY l p x dt ax cX a2 aI cI):hz P aI cI (g x a2):=by
 by_cases aA:ax=0
 · have I:=o.ok aA
   have ag:=c.y aA
   refine ⟨fun h=>?_,fun h=>?_⟩
   · obtain ⟨rfl,rfl⟩:=I.y h
     rw [ag,db.bind,if_pos (by rw [←I.f];exact h)]
   · rw [ag,db.bind,if_neg (by rw [←I.f];exact h)]
     exact ⟨I.f.symm,(I.z h).symm⟩
 · obtain ⟨_,rfl,rfl⟩:=o.st aA
   exact ⟨fun h=>absurd h aA,c.z⟩
theorem hz.fail [Inhabited p0] (c:hz P ax cX (.bad f s)) (I:ax=0→aI=f∧cI=s) (J:ax≠0→aI=ax∧cI=cX) (ai:0<aI):hz P aI cI q7:=by
 refine ⟨fun h=>by omega,fun _=>?_⟩
 by_cases aA:ax=0
 · obtain ⟨rfl,rfl⟩:=I aA;rw [c.y aA];exact ⟨rfl,rfl⟩
 · obtain ⟨rfl,rfl⟩:=J aA;exact c.z aA
theorem hz.to {Q ha:db p0} (c:hz P ax cX Q) (h:ax=0→Q=ha):hz P ax cX ha:=⟨fun z=>(c.y z).trans (h z),c.z⟩
theorem hz.done {a e q:Int} {y:p0} (c:hz P ax cX (.ok y (dt+1))) (aA:ax=0) (he:e=0) (aH:a≤dt) (h:dt<l.length):bY l P y a e q (dt+1) ax cX:=
 ⟨fun _=>by rw [c.y aA];exact ⟨aA,fun _=>⟨rfl,rfl⟩,fun h=>absurd aA h⟩,fun h=>absurd he h,by omega,by omega,by omega,fun _=>by omega⟩
theorem hz.bad {Q:db p0} {a e q:Int} {y:p0} (c:hz P ax cX Q) (aA:ax≠0) (he:e=0) (aH:a≤dt) (h:dt≤l.length) (aL:0≤ax):bY l P y a e q dt ax cX:=
 ⟨fun _=>⟨(c.z aA).1.symm,fun h=>absurd h aA,fun _=>(c.z aA).2.symm⟩,fun h=>absurd he h,aH,h,aL,fun h=>absurd h aA⟩
end
theorem Ld {α β:Type} [Inhabited β] {l:List Tok} {n a:Int} {xs:List α} {g:Int→db β} (h:0<(xs.length:Int)):nH l n xs a g=(eL l n 4 [44] a).bind fun _ a=>g a:=by
 rw [nH,if_neg (fun e=>by subst e;simp at h)]
theorem Le {α β:Type} [Inhabited β] {l:List Tok} {n a:Int} {xs:List α} {g:Int→db β} (h:(xs.length:Int)≤0):nH l n xs a g=g a:=by
 rw [nH,if_pos (List.eq_nil_of_length_eq_zero (by omega))]
section
variable (f:Int→db aD) (l:List Tok) (n:Int) (k:Nat) (bV:List ak) (xs:List aD)
def recC (m:ak) (a:Int):db aD:=(eL l n 4 [58] a).bind fun _ a=>(f a).bind fun x a=>kJ f l n k a (bV++[m]) (xs++[x])
def Fq (m:ak) (a:Int):db aD:=if tW bV m then .bad 3 (fp l n a) else recC f l n k bV xs m a
def Fs (a:Int):db aD:=(eL l n 1 [] a).bind fun m a=>Fq f l n k bV xs m a
end
theorem VV {f:Int→db aD} {l:List Tok} {n a:Int} {k:Nat} {bV:List ak} {xs:List aD} {m:ak} (h:tW bV m):Fq f l n k bV xs m a= .bad 3 (fp l n a):=if_pos h
theorem VW {f:Int→db aD} {l:List Tok} {n a:Int} {k:Nat} {bV:List ak} {xs:List aD} {m:ak} (h:(bV.length:Int)≤0∨Op.bytesLess (aa bV ((bV.length:Int)- 1)) m=true):Fq f l n k bV xs m a=recC f l n k bV xs m a:=
 if_neg fun ae=>by
  obtain ⟨bH,ho⟩:=ae
  rcases h with h|h
  · omega
  · rw [ho] at h;cases h
theorem VX {f:Int→db aD} {l:List Tok} {n a:Int} {k:Nat} {bV:List ak} {xs:List aD} (h:cT l 4 [125] a=false):kJ f l n (k+1) a bV xs=nH l n xs a fun a=>Fs f l n k bV xs a:=by
 rw [kJ,if_neg (ew h)];rfl
theorem VY {f:Int→db aD} {l:List Tok} {n a:Int} {k:Nat} {bV:List ak} {xs:List aD} (h:cT l 4 [125] a=true):kJ f l n (k+1) a bV xs= .ok (.mk 9 cK [] [] xs bV) (a+1):=by
 rw [kJ,if_pos h]
theorem VZ {f:Int→db aD} {l:List Tok} {n a:Int} {k:Nat} {xs:List aD} (h:cT l 4 [93] a=false):lW f l n (k+1) a xs=nH l n xs a fun a=>(f a).bind fun x a=>lW f l n k a (xs++[x]):=by
 rw [lW,if_neg (ew h)]
theorem V0 {f:Int→db aD} {l:List Tok} {n a:Int} {k:Nat} {xs:List aD} (h:cT l 4 [93] a=true):lW f l n (k+1) a xs= .ok (.mk 8 cK [] [] xs []) (a+1):=by
 rw [lW,if_pos h]
set_option maxHeartbeats 4000000 in
theorem V1 (l:List Tok) (n a e q:Int) (k:Nat) (d:Int) (r:Nat) (aQ:∀a e q d:Int,d=7- (k:Int)→0≤a→a≤l.length→0≤e→∀(r:Nat) (m:ad),fx [r] m→cY m→∀(K:R→ad→Prop),(∀bR cw b9 dA,bY l (cQ l n k a) bR a e q cw b9 dA→K (e7 bR) (ad.aX m [(r, .cells [.slice false (l.map cl), .int .i64 cw, .int .i64 n, .err 115 b9, .int .i64 dA])]))→bn Tryz.prog 127 [.ptr ⟨r,0,none⟩, .int .i64 d] (ad.aX m [(r, .cells [.slice false (l.map cl), .int .i64 a, .int .i64 n, .err 115 e, .int .i64 q])]) K) (ar:l.length≤5000) (aq:0≤a) (aH:a≤l.length) (he:0≤e) (aj:k≤7) (aY:d+1=7- (k:Int)) (aA:e=0) (m:ad) (gd:fx [r] m) (K:R→ad→Prop) (aJ:cY m) (U:∀bR cw b9 dA,bY l (kJ (cQ l n k) l n (l.length+1) a [] []) bR a e q cw b9 dA→K (e7 bR) (ad.aX m [(r, .cells [.slice false (l.map cl), .int .i64 cw, .int .i64 n, .err 115 b9, .int .i64 dA])])):bn Tryz.prog 178 [.ptr ⟨r,0,none⟩, .int .i64 d] (ad.aX m [(r, .cells [.slice false (l.map cl), .int .i64 a, .int .i64 n, .err 115 e, .int .i64 q])]) K:=by
 refine enter (c:=cP [] [] [7] [11999] [11] [r]) (vs:=[.loc 0 0, .aK (.int .i64 d)]) (L:=[bP l n a e q]) (m:=m) false cc Tryz.mixed Tryz.func178 rfl (k:=2) (by show cJ [11999] _ _ _=true;decide+kernel) rfl (gd.jq rfl) ?_
 refine aZ ?_
 refine ev (σ:=Int×Int×Int×List aD×List ak) [] [0,1,4,5] 3 (fun ⟨a2,aI,cI,xs,bV⟩=>([(0, .loc 0 0),(1,aw d),(4, .loc 1 0),(5, .loc 2 0)],[bP l n a2 aI cI, .cells [aw 0,aw 0,aw 0,bf ([]), .own [], .own [],bf ([]),bf ([]), .own [], .own []], .cells [aw 9,aw 0,aw 0,bf ([]:ak), .own [], .own [],bf ([]:ak),bf ([]:ak), .own (xs.map dv), .own (bV.map cf)]],m)) (fun ⟨a2,aI,cI,xs,bV⟩=>0≤a2∧a≤a2∧a2≤l.length∧0≤aI∧(aI=0→(xs.length:Int)≤a2∧(bV.length:Int)≤a2)∧xs.length≤5001∧bV.length≤5001∧∃dw:Nat,(aI=0→l.length- a2<dw)∧hz (kJ (cQ l n k) l n (l.length+1) a [] []) aI cI (kJ (cQ l n k) l n dw a2 bV xs)) (fun ⟨a2,aI,cI,xs,bV⟩=>if aI=0 then l.length- a2.toNat+1 else 0) (a,e,q,[],[]) ⟨rfl,rfl⟩ ?_ ?_
 · try dsimp only
   exact ⟨by omega,by omega,by omega,by omega,fun _=>⟨by simp;omega,by simp;omega⟩,by simp,by simp,l.length+1,fun _=>by omega,⟨fun _=>rfl,fun h=>absurd aA h⟩⟩
 rintro ⟨a2,aI,cI,xs,bV⟩ aM
 dsimp only at aM
 obtain ⟨i1,i2,i3,i4,i5,i6,i7,dw,i8,i9⟩:=aM
 refine aZ ?_
 refine dK 115 [0] (σ:=(Unit) ⊕ (Unit)) (Sum.elim (fun _=>aI=0∧cT l 4 ([125]:List UInt8) a2=true) (fun _=>aI=0→cT l 4 ([125]:List UInt8) a2=false)) (Sum.elim (fun _=> .b (.lit true)) (fun _=> .b (.lit false))) (Sum.elim (fun _=>[bP l n (a2+1) aI cI]) (fun _=>[bP l n a2 aI cI])) rfl (fun x=>by rcases x with _|_<;>rfl) (fun bs az gd ao K U=>iT l n a2 aI cI 4 ([125]:List UInt8) (bs.getD 0 0) ar (by omega) (by omega) (by omega) az gd K (fun z w=>U (.inl ()) ⟨z,w⟩) (fun z=>U (.inr ()) z)) ?_
 rintro (_|_) b5
 · try dsimp only [Sum.elim_inl,Sum.elim_inr] at b5
   dsimp only [Sum.elim_inl,Sum.elim_inr]
   have yQ:=kG b5.2
   refine rt rfl fun _=>?_
   show K (.agg [.int .i64 9, .int .i64 0, .int .i64 0, .str ([]:ak), .slice false [], .slice false [], .str ([]:ak), .str ([]:ak), .slice false (xs.map dv), .slice false (bV.map cf)]) (ad.aX m [(r, .cells [.slice false (l.map cl), .int .i64 (a2+1), .int .i64 n, .err 115 aI, .int .i64 cI])])
   obtain ⟨dw,rfl⟩:∃k,dw=k+1:=⟨dw- 1,by have:=i8 b5.1;omega⟩
   refine e9 (U (.mk 9 cK [] [] xs bV) _ _ _ ?_) ?_
   · exact hz.done (i9.to fun _=>VY b5.2) b5.1 aA (by omega) yQ
   · simp only [e7,aD.a,aD.n];rfl
 try dsimp only [Sum.elim_inl,Sum.elim_inr] at b5
 dsimp only [Sum.elim_inl,Sum.elim_inr]
 refine an (fun I=>?_) (fun I=>?_)
 · obtain ⟨dw,rfl⟩:∃k,dw=k+1:=⟨dw- 1,by have:=i8 I;omega⟩
   rw [VX (b5 I)] at i9
   have i10:=i8 I
   have i11:=i5 I
   refine AF (σ:=Int×Int×Int) [] [0,1,4,5] 3 (fun ⟨jQ,f3,nN⟩=>([(0, .loc 0 0),(1,aw d),(4, .loc 1 0),(5, .loc 2 0)],[bP l n jQ f3 nN, .cells [aw 0,aw 0,aw 0,bf ([]), .own [], .own [],bf ([]),bf ([]), .own [], .own []], .cells [aw 9,aw 0,aw 0,bf ([]:ak), .own [], .own [],bf ([]:ak),bf ([]:ak), .own (xs.map dv), .own (bV.map cf)]],m)) (fun ⟨jQ,f3,nN⟩=>a2≤jQ∧jQ≤l.length∧0≤f3∧hz (kJ (cQ l n k) l n (l.length+1) a [] []) f3 nN (Fs (cQ l n k) l n dw bV xs jQ)) ?_ ?_
   · rintro ⟨jQ,f3,nN⟩ o8
     refine dK 115 [0] (σ:=ak×Int×Int×Int) (fun ⟨j7,h1,eF,eY⟩=>bY l (eL l n 1 [] jQ) j7 jQ f3 nN h1 eF eY) (fun ⟨j7,h1,eF,eY⟩=>bf j7) (fun ⟨j7,h1,eF,eY⟩=>[bP l n h1 eF eY]) rfl (fun _=>rfl) (fun bs az gd ao K U=>yR l n jQ f3 nN (bs.getD 0 0) ar (by omega) (by omega) (by omega) az gd K (fun fJ de df dh ba=>U (fJ,de,df,dh) ba)) ?_
     rintro ⟨j7,h1,eF,eY⟩ eO
     dsimp only at eO
     have KS:=eO.bD
     have j1:=eO.ab
     have KT:=eO.dd
     refine AF (σ:=Int×Int×Int) [] [0,1,4,5,6] 3 (fun ⟨c3,g3,sn⟩=>([(0, .loc 0 0),(1,aw d),(4, .loc 1 0),(5, .loc 2 0),(6,bf j7)],[bP l n c3 g3 sn, .cells [aw 0,aw 0,aw 0,bf ([]), .own [], .own [],bf ([]),bf ([]), .own [], .own []], .cells [aw 9,aw 0,aw 0,bf ([]:ak), .own [], .own [],bf ([]:ak),bf ([]:ak), .own (xs.map dv), .own (bV.map cf)]],m)) (fun ⟨c3,g3,sn⟩=>jQ≤c3∧c3≤l.length∧0≤g3∧hz (kJ (cQ l n k) l n (l.length+1) a [] []) g3 sn (recC (cQ l n k) l n dw bV xs j7 c3)) ?_ ?_
     · rintro ⟨c3,g3,sn⟩ yU
       refine dK 115 [0] (σ:=ak×Int×Int×Int) (fun ⟨oq,iw,iE,ju⟩=>(bY l (eL l n 4 ([58]:List UInt8) c3) oq c3 g3 sn iw iE ju)∧(iE≠0→oq=[])) (fun ⟨oq,iw,iE,ju⟩=>bf oq) (fun ⟨oq,iw,iE,ju⟩=>[bP l n iw iE ju]) rfl (fun _=>rfl) (fun bs az gd ao K U=>nG l n c3 g3 sn 4 ([58]:List UInt8) (bs.getD 0 0) ar (by omega) (by omega) (by omega) az gd K (fun fJ de df dh ba aA=>U (fJ,de,df,dh) ⟨ba,aA⟩)) ?_
       rintro ⟨oq,iw,iE,ju⟩ fF
       dsimp only at fF
       obtain ⟨fF,qa⟩:=fF
       have KU:=fF.bD
       have KV:=fF.ab
       have KW:=fF.dd
       refine ap cf bV ([j7]:List (List UInt8)) rfl rfl (fun _=>⟨rfl,rfl⟩) (by (simp only [List.length_append,List.length_cons,List.length_nil];omega)) ?_
       refine lN cc Tryz.mixed (σ:=Int×Int×Int×aD) (.f 0 (.f 2 (.f 3 (.o 1 (.s 4 (.s 5 (.s 6 (.s 7 (.f 8 (.s 9 .d)))))) (.o 4 (.o 1 (.s 5 (.s 6 (.s 7 (.f 8 (.s 9 .d))))) (.o 5 (.o 1 (.s 6 (.s 7 (.f 8 (.s 9 .d)))) (.o 6 (.s 1 (.s 7 (.f 8 (.s 9 .d)))) .z)) .z)) .z))))) [] [0,1,4,5] 3 (fun ⟨a9,eP,eU,e1⟩=>([(0, .loc 0 0),(1,aw d),(4, .loc 1 0),(5, .loc 2 0)],[bP l n a9 eP eU, .cells [aw 0,aw 0,aw 0,bf ([]), .own [], .own [],bf ([]),bf ([]), .own [], .own []], .cells [aw 9,aw 0,aw 0,bf ([]:ak), .own [], .own [],bf ([]:ak),bf ([]:ak), .own ((xs++([e1]:List aD)).map dv), .own ((bV++([j7]:List (List UInt8))).map cf)]],m)) (fun ⟨a9,eP,eU,e1⟩=>bY l (cQ l n k iw) e1 iw iE ju a9 eP eU) (by decide+kernel) ?_ ?_
       · rintro ⟨a9,eP,eU,e1⟩ eZ
         try dsimp only at eZ
         have v8:=eZ.bD
         have wa:=eZ.ab
         have wb:=eZ.dd
         refine ⟨(a9,eP,eU,xs++([e1]:List aD),bV++([j7]:List (List UInt8))),⟨rfl,rfl⟩,?_,?_⟩
         · try dsimp only
           have a8:=eZ.gt
           have c:=hz.step (hz.step yU.2.2.2 fF) eZ
           simp only [List.length_append,List.length_cons,List.length_nil]
           exact ⟨by omega,by omega,by omega,by omega,fun aO=>by have:=a8 aO;omega,by omega,by omega,dw,fun aO=>by have:=a8 aO;omega,c⟩
         try dsimp only
         rw [if_pos I]
         have a8:=eZ.gt
         split<;>omega
       repeat' first
        |refine ⟨(kH,j8,kI,ue),⟨rfl,rfl⟩,gC⟩
        |(refine dK 115 [0] (σ:=aD×Int×Int×Int) (fun ⟨ue,kH,j8,kI⟩=>bY l (cQ l n k iw) ue iw iE ju kH j8 kI) (fun ⟨ue,kH,j8,kI⟩=>k6 ue) (fun ⟨ue,kH,j8,kI⟩=>[bP l n kH j8 kI]) rfl (fun _=>rfl) (fun bs az gd ao K U=>aQ iw iE ju (d+1) (by omega) (by omega) (by omega) (by omega) (bs.getD 0 0) az gd (cY.up ao aJ) K (fun gY de df dh ba=>U (gY,de,df,dh) ba)) ?_;rintro ⟨ue,kH,j8,kI⟩ gC;dsimp only at gC;have KX:=gC.bD;have KY:=gC.ab;have KZ:=gC.dd)
        |refine ap dv xs ([ue]:List aD) rfl (by simp only [List.map_cons,List.map_nil,hI];try rfl) (fun a=>by rw [hI];exact ⟨rfl,rfl⟩) (by (simp only [List.length_append,List.length_cons,List.length_nil];omega)) ?_
        |refine an (by omega) ?_
        |refine ⟨?_,?_,trivial⟩
     refine dq ?_
     refine cx [0,1,4,5,6] 41 ((decide (0<(bV.length:Int)))&&(!(Op.bytesLess (aa bV ((bV.length:Int)- 1)) j7))) ?_ ?_
     · repeat' first
        |exact ⟨⟨_,rfl,by grind [bM.val]⟩,rfl⟩
        |refine an (fun _=>?_) (fun _=>?_)
        |refine an (by omega) ?_
        |refine fP (by omega) ?_
     refine an (fun J=>?_) (fun J=>?_)
     · replace J:(0<(bV.length:Int))∧(Op.bytesLess (aa bV ((bV.length:Int)- 1)) j7=false):=⟨(of_decide_eq_true (e4 J)),(dD (fY J))⟩
       refine dK 115 [0] (σ:=Int×Int) (fun ⟨h2,iU⟩=>(eF=0→h2=3∧iU=fp l n h1)∧(eF≠0→h2=eF∧iU=eY)∧0<h2) (fun ⟨h2,iU⟩=> .ez []) (fun ⟨h2,iU⟩=>[bP l n h1 h2 iU]) rfl (fun _=>rfl) (fun bs az gd ao K U=>sG l n h1 eF eY 3 (bs.getD 0 0) (by decide) ar (by omega) (by omega) (by omega) az gd K (fun z=>U (3,fp l n h1) ⟨fun _=>⟨rfl,rfl⟩,fun y=>absurd z y,by decide⟩) (fun z=>U (eF,eY) ⟨fun y=>absurd y z,fun _=>⟨rfl,rfl⟩,by omega⟩)) ?_
       rintro ⟨h2,iU⟩ h3
       dsimp only at h3
       obtain ⟨V2,V3,V4⟩:=h3
       refine ⟨(h1,h2,iU),⟨rfl,rfl⟩,⟨by omega,by omega,by omega,hz.fail ((hz.step o8.2.2.2 eO).to fun _=>VV J) V2 V3 V4⟩⟩
     replace J:((bV.length:Int)≤0)∨(Op.bytesLess (aa bV ((bV.length:Int)- 1)) j7=true):=((fZ J).imp (fun q=>(Int.not_lt.1 (of_decide_eq_false q))) (fun q=>(dC q)))
     refine ⟨(h1,eF,eY),⟨rfl,rfl⟩,⟨by omega,by omega,by omega,(hz.step o8.2.2.2 eO).to fun _=>VW J⟩⟩
   refine dq ?_
   refine an (fun ai=>?_) (fun ai=>?_)
   · refine dK 115 [0] (σ:=ak×Int×Int×Int) (fun ⟨mW,h4,hP,h5⟩=>(bY l (eL l n 4 ([44]:List UInt8) a2) mW a2 aI cI h4 hP h5)∧(hP≠0→mW=[])) (fun ⟨mW,h4,hP,h5⟩=>bf mW) (fun ⟨mW,h4,hP,h5⟩=>[bP l n h4 hP h5]) rfl (fun _=>rfl) (fun bs az gd ao K U=>nG l n a2 aI cI 4 ([44]:List UInt8) (bs.getD 0 0) ar (by omega) (by omega) (by omega) az gd K (fun fJ de df dh ba aA=>U (fJ,de,df,dh) ⟨ba,aA⟩)) ?_
     rintro ⟨mW,h4,hP,h5⟩ iF
     dsimp only at iF
     obtain ⟨iF,aaF⟩:=iF
     have Fl:=iF.bD
     have Fm:=iF.ab
     have Fo:=iF.dd
     refine ⟨(h4,hP,h5),⟨rfl,rfl⟩,⟨by omega,by omega,by omega,hz.step (p:=eL l n 4 [44] a2) (x:=mW) (g:=fun _ a=>Fs (cQ l n k) l n dw bV xs a) (i9.to fun _=>Ld ai) iF⟩⟩
   refine ⟨(a2,aI,cI),⟨rfl,rfl⟩,⟨by omega,by omega,by omega,i9.to fun _=>Le ai⟩⟩
 refine rt rfl fun _=>?_
 show K (.agg [.int .i64 9, .int .i64 0, .int .i64 0, .str ([]:ak), .slice false [], .slice false [], .str ([]:ak), .str ([]:ak), .slice false (xs.map dv), .slice false (bV.map cf)]) (ad.aX m [(r, .cells [.slice false (l.map cl), .int .i64 a2, .int .i64 n, .err 115 aI, .int .i64 cI])])
 refine e9 (U (.mk 9 cK [] [] xs bV) _ _ _ ?_) ?_
 · exact hz.bad i9 I aA (by omega) (by omega) (by omega)
 · simp only [e7,aD.a,aD.n];rfl
end Go.Proofs
end
section
namespace Go.Proofs
open Go Go.bh Go.bS
set_option maxRecDepth 100000
theorem V5 {l:List Tok} {n k a e q dt ax cX:Int} {s x:ak} (aA:e=0) (ao:cT l k s a=true) (o:bY l (eL l n k s a) x a e q dt ax cX):x=(aa l a).2.2∧dt=a+1∧ax=0:=by
 have h:=o.ok aA
 rw [eL,if_pos ao] at h
 have bp:ax=0:=h.f
 obtain ⟨I,J⟩:=h.y bp
 exact ⟨I,J,bp⟩
theorem bY.V6 {l:List Tok} {α:Type} {x:α} {a e q ax cX:Int} (aq:a<l.length) (he:e=0) (I:ax=0):bY l (.ok x (a+1):db α) x a e q (a+1) ax cX:=
 ⟨fun _=>⟨I,fun _=>⟨rfl,rfl⟩,fun h=>absurd I h⟩,fun h=>absurd he h,by omega,by omega,by omega,fun _=>by omega⟩
set_option maxHeartbeats 4000000 in
theorem V7 (l:List Tok) (n a e q:Int) (k:Nat) (d:Int) (r:Nat) (aQ:∀a e q d:Int,d=7- (k:Int)→0≤a→a≤l.length→0≤e→∀(r:Nat) (m:ad),fx [r] m→cY m→∀(K:R→ad→Prop),(∀bR cw b9 dA,bY l (cQ l n k a) bR a e q cw b9 dA→K (e7 bR) (ad.aX m [(r, .cells [.slice false (l.map cl), .int .i64 cw, .int .i64 n, .err 115 b9, .int .i64 dA])]))→bn Tryz.prog 127 [.ptr ⟨r,0,none⟩, .int .i64 d] (ad.aX m [(r, .cells [.slice false (l.map cl), .int .i64 a, .int .i64 n, .err 115 e, .int .i64 q])]) K) (ar:l.length≤5000) (aq:0≤a) (aH:a≤l.length) (he:0≤e) (hw:sI l) (aj:k≤7) (aY:d+1=7- (k:Int)) (aA:e=0) (m:ad) (gd:fx [r] m) (K:R→ad→Prop) (aJ:cY m) (U:∀bR cw b9 dA,bY l (cQ l n (k+1) a) bR a e q cw b9 dA→K (e7 bR) (ad.aX m [(r, .cells [.slice false (l.map cl), .int .i64 cw, .int .i64 n, .err 115 b9, .int .i64 dA])])):bn Tryz.prog 127 [.ptr ⟨r,0,none⟩, .int .i64 d] (ad.aX m [(r, .cells [.slice false (l.map cl), .int .i64 a, .int .i64 n, .err 115 e, .int .i64 q])]) K:=by
 refine enter (c:=cP [] [] [] [11999] [11] [r]) (vs:=[.loc 0 0, .aK (.int .i64 d)]) (L:=[bP l n a e q]) (m:=m) false cc Tryz.mixed Tryz.func127 rfl (k:=2) (by show cJ [11999] _ _ _=true;decide+kernel) rfl (gd.jq rfl) ?_
 refine aZ ?_
 refine an (fun I=>?_) (fun I=>?_)
 · omega
 refine aZ ?_
 refine an (fun J=>?_) (fun J=>?_)
 · refine dK 115 [0] (σ:=(Unit) ⊕ (Unit)) (Sum.elim (fun _=>e=0∧cT l 4 ([40]:List UInt8) a=true) (fun _=>e=0→cT l 4 ([40]:List UInt8) a=false)) (Sum.elim (fun _=> .b (.lit true)) (fun _=> .b (.lit false))) (Sum.elim (fun _=>[bP l n (a+1) e q]) (fun _=>[bP l n a e q])) rfl (fun x=>by rcases x with _|_<;>rfl) (fun bs az gd ao K U=>iT l n a e q 4 ([40]:List UInt8) (bs.getD 0 0) ar (by omega) (by omega) (by omega) az gd K (fun z w=>U (.inl ()) ⟨z,w⟩) (fun z=>U (.inr ()) z)) ?_
   rintro (_|_) b5
   · try dsimp only [Sum.elim_inl,Sum.elim_inr] at b5
     dsimp only [Sum.elim_inl,Sum.elim_inr]
     have yQ:=kG b5.2
     refine dK 115 [0] (σ:=aD×Int×Int×Int) (fun ⟨mx,h1,eF,eY⟩=>bY l (pZ (cQ l n k) l n (a+1)) mx (a+1) e q h1 eF eY) (fun ⟨mx,h1,eF,eY⟩=>k6 mx) (fun ⟨mx,h1,eF,eY⟩=>[bP l n h1 eF eY]) rfl (fun _=>rfl) (fun bs az gd ao K U=>VF l n (a+1) e q k d (bs.getD 0 0) aQ ar (by omega) (by omega) (by omega) aj aY az gd K (cY.up ao aJ) (fun gY de df dh ba=>U (gY,de,df,dh) ba)) ?_
     rintro ⟨mx,h1,eF,eY⟩ eO
     dsimp only at eO
     have KS:=eO.bD
     have j1:=eO.ab
     have KT:=eO.dd
     refine rt rfl fun _=>?_
     show K (.agg [.int .i64 mx.kind, .int .i64 mx.v.kind, .int .i64 mx.v.n, .str mx.v.s, .slice false (mx.v.l.map cm), .slice false (mx.v.f.map bB), .str mx.s, .str mx.t, .slice false (mx.a.map dv), .slice false (mx.n.map cf)]) (ad.aX m [(r, .cells [.slice false (l.map cl), .int .i64 h1, .int .i64 n, .err 115 eF, .int .i64 eY])])
     refine U mx _ _ _ ?_
     rw [cQ,if_pos b5.2]
     exact bY.from aA (by omega) eO
   try dsimp only [Sum.elim_inl,Sum.elim_inr] at b5
   dsimp only [Sum.elim_inl,Sum.elim_inr]
   refine dK 115 [0] (σ:=(Unit) ⊕ (Unit)) (Sum.elim (fun _=>e=0∧cT l 4 ([91]:List UInt8) a=true) (fun _=>e=0→cT l 4 ([91]:List UInt8) a=false)) (Sum.elim (fun _=> .b (.lit true)) (fun _=> .b (.lit false))) (Sum.elim (fun _=>[bP l n (a+1) e q]) (fun _=>[bP l n a e q])) rfl (fun x=>by rcases x with _|_<;>rfl) (fun bs az gd ao K U=>iT l n a e q 4 ([91]:List UInt8) (bs.getD 0 0) ar (by omega) (by omega) (by omega) az gd K (fun z w=>U (.inl ()) ⟨z,w⟩) (fun z=>U (.inr ()) z)) ?_
   rintro (_|_) fF
   · try dsimp only [Sum.elim_inl,Sum.elim_inr] at fF
     dsimp only [Sum.elim_inl,Sum.elim_inr]
     have vW:=kG fF.2
     refine aZ ?_
     refine ev (σ:=Int×Int×Int×List aD) [] [0,1,4,5] 3 (fun ⟨a2,aI,cI,xs⟩=>([(0, .loc 0 0),(1,aw d),(4, .loc 1 0),(5, .loc 2 0)],[bP l n a2 aI cI, .cells [aw 0,aw 0,aw 0,bf ([]), .own [], .own [],bf ([]),bf ([]), .own [], .own []], .cells [aw 8,aw 0,aw 0,bf ([]:ak), .own [], .own [],bf ([]:ak),bf ([]:ak), .own (xs.map dv), .own []]],m)) (fun ⟨a2,aI,cI,xs⟩=>0≤a2∧a+1≤a2∧a2≤l.length∧0≤aI∧(aI=0→(xs.length:Int)≤a2)∧xs.length≤5001∧∃dw:Nat,(aI=0→l.length- a2<dw)∧hz (lW (cQ l n k) l n (l.length+1) (a+1) []) aI cI (lW (cQ l n k) l n dw a2 xs)) (fun ⟨a2,aI,cI,xs⟩=>if aI=0 then l.length- a2.toNat+1 else 0) (a+1,e,q,[]) ⟨rfl,rfl⟩ ?_ ?_
     · try dsimp only
       exact ⟨by omega,by omega,by omega,by omega,fun _=>by simp;omega,by simp,l.length+1,fun _=>by omega,⟨fun _=>rfl,fun h=>absurd aA h⟩⟩
     rintro ⟨a2,aI,cI,xs⟩ aM
     dsimp only at aM
     obtain ⟨i1,i2,i3,i4,i5,i6,dw,i8,i9⟩:=aM
     refine aZ ?_
     refine dK 115 [0] (σ:=(Unit) ⊕ (Unit)) (Sum.elim (fun _=>aI=0∧cT l 4 ([93]:List UInt8) a2=true) (fun _=>aI=0→cT l 4 ([93]:List UInt8) a2=false)) (Sum.elim (fun _=> .b (.lit true)) (fun _=> .b (.lit false))) (Sum.elim (fun _=>[bP l n (a2+1) aI cI]) (fun _=>[bP l n a2 aI cI])) rfl (fun x=>by rcases x with _|_<;>rfl) (fun bs az gd ao K U=>iT l n a2 aI cI 4 ([93]:List UInt8) (bs.getD 0 0) ar (by omega) (by omega) (by omega) az gd K (fun z w=>U (.inl ()) ⟨z,w⟩) (fun z=>U (.inr ()) z)) ?_
     rintro (_|_) gC
     · try dsimp only [Sum.elim_inl,Sum.elim_inr] at gC
       dsimp only [Sum.elim_inl,Sum.elim_inr]
       have K7:=kG gC.2
       refine rt rfl fun _=>?_
       show K (.agg [.int .i64 8, .int .i64 0, .int .i64 0, .str ([]:ak), .slice false [], .slice false [], .str ([]:ak), .str ([]:ak), .slice false (xs.map dv), .slice false []]) (ad.aX m [(r, .cells [.slice false (l.map cl), .int .i64 (a2+1), .int .i64 n, .err 115 aI, .int .i64 cI])])
       obtain ⟨dw,rfl⟩:∃k,dw=k+1:=⟨dw- 1,by have:=i8 gC.1;omega⟩
       refine e9 (U (.mk 8 cK [] [] xs []) _ _ _ ?_) ?_
       · rw [cQ,if_neg (ew (b5 aA)),if_pos fF.2]
         exact bY.from aA (by omega) (hz.done (a:=a+1) (e:=e) (q:=q) (i9.to fun _=>V0 gC.2) gC.1 aA (by omega) K7)
       · simp only [e7,aD.a,aD.n];rfl
     try dsimp only [Sum.elim_inl,Sum.elim_inr] at gC
     dsimp only [Sum.elim_inl,Sum.elim_inr]
     refine an (fun ai=>?_) (fun ai=>?_)
     · obtain ⟨dw,rfl⟩:∃k,dw=k+1:=⟨dw- 1,by have:=i8 ai;omega⟩
       rw [VZ (gC ai)] at i9
       have i10:=i8 ai
       have i11:=i5 ai
       refine aZ ?_
       refine dq ?_
       refine an (fun aC=>?_) (fun aC=>?_)
       · refine dK 115 [0] (σ:=ak×Int×Int×Int) (fun ⟨nI,k7,h2,iU⟩=>(bY l (eL l n 4 ([44]:List UInt8) a2) nI a2 aI cI k7 h2 iU)∧(h2≠0→nI=[])) (fun ⟨nI,k7,h2,iU⟩=>bf nI) (fun ⟨nI,k7,h2,iU⟩=>[bP l n k7 h2 iU]) rfl (fun _=>rfl) (fun bs az gd ao K U=>nG l n a2 aI cI 4 ([44]:List UInt8) (bs.getD 0 0) ar (by omega) (by omega) (by omega) az gd K (fun fJ de df dh ba aA=>U (fJ,de,df,dh) ⟨ba,aA⟩)) ?_
         rintro ⟨nI,k7,h2,iU⟩ h3
         dsimp only at h3
         obtain ⟨h3,Vs⟩:=h3
         have Vt:=h3.bD
         have Vu:=h3.ab
         have Vv:=h3.dd
         refine lN cc Tryz.mixed (σ:=Int×Int×Int×aD) (.f 0 (.f 2 (.f 3 (.o 1 (.s 4 (.s 5 (.s 6 (.s 7 (.f 8 (.s 9 .d)))))) (.o 4 (.o 1 (.s 5 (.s 6 (.s 7 (.f 8 (.s 9 .d))))) (.o 5 (.o 1 (.s 6 (.s 7 (.f 8 (.s 9 .d)))) (.o 6 (.s 1 (.s 7 (.f 8 (.s 9 .d)))) .z)) .z)) .z))))) [] [0,1,4,5] 3 (fun ⟨a9,eP,eU,e1⟩=>([(0, .loc 0 0),(1,aw d),(4, .loc 1 0),(5, .loc 2 0)],[bP l n a9 eP eU, .cells [aw 0,aw 0,aw 0,bf ([]), .own [], .own [],bf ([]),bf ([]), .own [], .own []], .cells [aw 8,aw 0,aw 0,bf ([]:ak), .own [], .own [],bf ([]:ak),bf ([]:ak), .own ((xs++([e1]:List aD)).map dv), .own []]],m)) (fun ⟨a9,eP,eU,e1⟩=>bY l (cQ l n k k7) e1 k7 h2 iU a9 eP eU) (by decide+kernel) ?_ ?_
         · rintro ⟨a9,eP,eU,e1⟩ eZ
           try dsimp only at eZ
           have v8:=eZ.bD
           have wa:=eZ.ab
           have wb:=eZ.dd
           refine ⟨(a9,eP,eU,xs++([e1]:List aD)),⟨rfl,rfl⟩,?_,?_⟩
           · try dsimp only
             have a8:=eZ.gt
             have c:=hz.step (hz.step (p:=eL l n 4 [44] a2) (x:=nI) (g:=fun _ a=>(cQ l n k a).bind fun x a=>lW (cQ l n k) l n dw a (xs++[x])) (i9.to fun _=>Ld aC) h3) eZ
             simp only [List.length_append,List.length_cons,List.length_nil]
             exact ⟨by omega,by omega,by omega,by omega,fun aO=>by have:=a8 aO;omega,by omega,dw,fun aO=>by have:=a8 aO;omega,c⟩
           try dsimp only
           rw [if_pos ai]
           have a8:=eZ.gt
           split<;>omega
         repeat' first
          |refine ⟨(h4,hP,h5,mY),⟨rfl,rfl⟩,iF⟩
          |(refine dK 115 [0] (σ:=aD×Int×Int×Int) (fun ⟨mY,h4,hP,h5⟩=>bY l (cQ l n k k7) mY k7 h2 iU h4 hP h5) (fun ⟨mY,h4,hP,h5⟩=>k6 mY) (fun ⟨mY,h4,hP,h5⟩=>[bP l n h4 hP h5]) rfl (fun _=>rfl) (fun bs az gd ao K U=>aQ k7 h2 iU (d+1) (by omega) (by omega) (by omega) (by omega) (bs.getD 0 0) az gd (cY.up ao aJ) K (fun gY de df dh ba=>U (gY,de,df,dh) ba)) ?_;rintro ⟨mY,h4,hP,h5⟩ iF;dsimp only at iF;have Fl:=iF.bD;have Fm:=iF.ab;have Fo:=iF.dd)
          |refine ap dv xs ([mY]:List aD) rfl (by simp only [List.map_cons,List.map_nil,hI];try rfl) (fun a=>by rw [hI];exact ⟨rfl,rfl⟩) (by (simp only [List.length_append,List.length_cons,List.length_nil];omega)) ?_
          |refine an (by omega) ?_
          |refine ⟨?_,?_,trivial⟩
       refine lN cc Tryz.mixed (σ:=Int×Int×Int×aD) (.f 0 (.f 2 (.f 3 (.o 1 (.s 4 (.s 5 (.s 6 (.s 7 (.f 8 (.s 9 .d)))))) (.o 4 (.o 1 (.s 5 (.s 6 (.s 7 (.f 8 (.s 9 .d))))) (.o 5 (.o 1 (.s 6 (.s 7 (.f 8 (.s 9 .d)))) (.o 6 (.s 1 (.s 7 (.f 8 (.s 9 .d)))) .z)) .z)) .z))))) [] [0,1,4,5] 3 (fun ⟨a9,eP,eU,e1⟩=>([(0, .loc 0 0),(1,aw d),(4, .loc 1 0),(5, .loc 2 0)],[bP l n a9 eP eU, .cells [aw 0,aw 0,aw 0,bf ([]), .own [], .own [],bf ([]),bf ([]), .own [], .own []], .cells [aw 8,aw 0,aw 0,bf ([]:ak), .own [], .own [],bf ([]:ak),bf ([]:ak), .own ((xs++([e1]:List aD)).map dv), .own []]],m)) (fun ⟨a9,eP,eU,e1⟩=>bY l (cQ l n k a2) e1 a2 aI cI a9 eP eU) (by decide+kernel) ?_ ?_
       · rintro ⟨a9,eP,eU,e1⟩ eZ
         try dsimp only at eZ
         have v8:=eZ.bD
         have wa:=eZ.ab
         have wb:=eZ.dd
         refine ⟨(a9,eP,eU,xs++([e1]:List aD)),⟨rfl,rfl⟩,?_,?_⟩
         · try dsimp only
           have a8:=eZ.gt
           have c:=hz.step (i9.to fun _=>Le aC) eZ
           simp only [List.length_append,List.length_cons,List.length_nil]
           exact ⟨by omega,by omega,by omega,by omega,fun aO=>by have:=a8 aO;omega,by omega,dw,fun aO=>by have:=a8 aO;omega,c⟩
         try dsimp only
         rw [if_pos ai]
         have a8:=eZ.gt
         split<;>omega
       repeat' first
        |refine ⟨(ow,nM,ox,uf),⟨rfl,rfl⟩,ka⟩
        |(refine dK 115 [0] (σ:=aD×Int×Int×Int) (fun ⟨uf,ow,nM,ox⟩=>bY l (cQ l n k a2) uf a2 aI cI ow nM ox) (fun ⟨uf,ow,nM,ox⟩=>k6 uf) (fun ⟨uf,ow,nM,ox⟩=>[bP l n ow nM ox]) rfl (fun _=>rfl) (fun bs az gd ao K U=>aQ a2 aI cI (d+1) (by omega) (by omega) (by omega) (by omega) (bs.getD 0 0) az gd (cY.up ao aJ) K (fun gY de df dh ba=>U (gY,de,df,dh) ba)) ?_;rintro ⟨uf,ow,nM,ox⟩ ka;dsimp only at ka;have VG:=ka.bD;have VH:=ka.ab;have VI:=ka.dd)
        |refine ap dv xs ([uf]:List aD) rfl (by simp only [List.map_cons,List.map_nil,hI];try rfl) (fun a=>by rw [hI];exact ⟨rfl,rfl⟩) (by (simp only [List.length_append,List.length_cons,List.length_nil];omega)) ?_
        |refine an (by omega) ?_
        |refine ⟨?_,?_,trivial⟩
     refine rt rfl fun _=>?_
     show K (.agg [.int .i64 8, .int .i64 0, .int .i64 0, .str ([]:ak), .slice false [], .slice false [], .str ([]:ak), .str ([]:ak), .slice false (xs.map dv), .slice false []]) (ad.aX m [(r, .cells [.slice false (l.map cl), .int .i64 a2, .int .i64 n, .err 115 aI, .int .i64 cI])])
     refine e9 (U (.mk 8 cK [] [] xs []) _ _ _ ?_) ?_
     · rw [cQ,if_neg (ew (b5 aA)),if_pos fF.2]
       exact bY.from aA (by omega) (hz.bad (a:=a+1) (e:=e) (q:=q) i9 ai aA (by omega) (by omega) (by omega))
     · simp only [e7,aD.a,aD.n];rfl
   try dsimp only [Sum.elim_inl,Sum.elim_inr] at fF
   dsimp only [Sum.elim_inl,Sum.elim_inr]
   refine dK 115 [0] (σ:=(Unit) ⊕ (Unit)) (Sum.elim (fun _=>e=0∧cT l 4 ([123]:List UInt8) a=true) (fun _=>e=0→cT l 4 ([123]:List UInt8) a=false)) (Sum.elim (fun _=> .b (.lit true)) (fun _=> .b (.lit false))) (Sum.elim (fun _=>[bP l n (a+1) e q]) (fun _=>[bP l n a e q])) rfl (fun x=>by rcases x with _|_<;>rfl) (fun bs az gd ao K U=>iT l n a e q 4 ([123]:List UInt8) (bs.getD 0 0) ar (by omega) (by omega) (by omega) az gd K (fun z w=>U (.inl ()) ⟨z,w⟩) (fun z=>U (.inr ()) z)) ?_
   rintro (_|_) jv
   · try dsimp only [Sum.elim_inl,Sum.elim_inr] at jv
     dsimp only [Sum.elim_inl,Sum.elim_inr]
     have VJ:=kG jv.2
     refine dK 115 [0] (σ:=aD×Int×Int×Int) (fun ⟨iX,oB,oC,oD⟩=>bY l (kJ (cQ l n k) l n (l.length+1) (a+1) [] []) iX (a+1) e q oB oC oD) (fun ⟨iX,oB,oC,oD⟩=>k6 iX) (fun ⟨iX,oB,oC,oD⟩=>[bP l n oB oC oD]) rfl (fun _=>rfl) (fun bs az gd ao K U=>V1 l n (a+1) e q k d (bs.getD 0 0) aQ ar (by omega) (by omega) (by omega) aj aY aA az gd K (cY.up ao aJ) (fun gY de df dh ba=>U (gY,de,df,dh) ba)) ?_
     rintro ⟨iX,oB,oC,oD⟩ lv
     dsimp only at lv
     have VN:=lv.bD
     have VO:=lv.ab
     have VP:=lv.dd
     refine rt rfl fun _=>?_
     show K (.agg [.int .i64 iX.kind, .int .i64 iX.v.kind, .int .i64 iX.v.n, .str iX.v.s, .slice false (iX.v.l.map cm), .slice false (iX.v.f.map bB), .str iX.s, .str iX.t, .slice false (iX.a.map dv), .slice false (iX.n.map cf)]) (ad.aX m [(r, .cells [.slice false (l.map cl), .int .i64 oB, .int .i64 n, .err 115 oC, .int .i64 oD])])
     refine U iX _ _ _ ?_
     rw [cQ,if_neg (ew (b5 aA)),if_neg (ew (fF aA)),if_pos jv.2]
     exact bY.from aA (by omega) lv
   try dsimp only [Sum.elim_inl,Sum.elim_inr] at jv
   dsimp only [Sum.elim_inl,Sum.elim_inr]
   refine dK 115 [0] (σ:=(Unit) ⊕ (Unit)) (Sum.elim (fun _=>e=0∧cT l 4 ([45]:List UInt8) a=true) (fun _=>e=0→cT l 4 ([45]:List UInt8) a=false)) (Sum.elim (fun _=> .b (.lit true)) (fun _=> .b (.lit false))) (Sum.elim (fun _=>[bP l n (a+1) e q]) (fun _=>[bP l n a e q])) rfl (fun x=>by rcases x with _|_<;>rfl) (fun bs az gd ao K U=>iT l n a e q 4 ([45]:List UInt8) (bs.getD 0 0) ar (by omega) (by omega) (by omega) az gd K (fun z w=>U (.inl ()) ⟨z,w⟩) (fun z=>U (.inr ()) z)) ?_
   rintro (_|_) kb
   · try dsimp only [Sum.elim_inl,Sum.elim_inr] at kb
     dsimp only [Sum.elim_inl,Sum.elim_inr]
     have aaG:=kG kb.2
     refine dK 115 [0] (σ:=aD×Int×Int×Int) (fun ⟨iW,oy,oz,oA⟩=>bY l (ou l n (-1) (a+1)) iW a e q oy oz oA) (fun ⟨iW,oy,oz,oA⟩=>k6 iW) (fun ⟨iW,oy,oz,oA⟩=>[bP l n oy oz oA]) rfl (fun _=>rfl) (fun bs az gd ao K U=>K2 l n (a+1) e q (-1) (bs.getD 0 0) ar (by omega) (by omega) (by omega) hw (by omega) aA a (by omega) (by omega) (by omega) az gd K (cY.up ao aJ) (fun gY de df dh ba=>U (gY,de,df,dh) ba)) ?_
     rintro ⟨iW,oy,oz,oA⟩ lY
     dsimp only at lY
     have VK:=lY.bD
     have VL:=lY.ab
     have VM:=lY.dd
     refine rt rfl fun _=>?_
     show K (.agg [.int .i64 iW.kind, .int .i64 iW.v.kind, .int .i64 iW.v.n, .str iW.v.s, .slice false (iW.v.l.map cm), .slice false (iW.v.f.map bB), .str iW.s, .str iW.t, .slice false (iW.a.map dv), .slice false (iW.n.map cf)]) (ad.aX m [(r, .cells [.slice false (l.map cl), .int .i64 oy, .int .i64 n, .err 115 oz, .int .i64 oA])])
     refine U iW _ _ _ ?_
     rw [cQ,if_neg (ew (b5 aA)),if_neg (ew (fF aA)),if_neg (ew (jv aA)),if_pos kb.2]
     exact lY
   try dsimp only [Sum.elim_inl,Sum.elim_inr] at kb
   dsimp only [Sum.elim_inl,Sum.elim_inr]
   refine fE [0] [bP l n a e q] (e6 (qx l 2 ([]) a e)) rfl (fun bs az gd=>Fi l n a e q 2 ([]) (bs.getD 0 0) ar (by omega) (by omega) (by omega) az gd) ?_
   refine an (fun aN=>?_) (fun aN=>?_)
   · refine dK 115 [0] (σ:=aD×Int×Int×Int) (fun ⟨eM,iV,jw,jO⟩=>bY l (ou l n 1 a) eM a e q iV jw jO) (fun ⟨eM,iV,jw,jO⟩=>k6 eM) (fun ⟨eM,iV,jw,jO⟩=>[bP l n iV jw jO]) rfl (fun _=>rfl) (fun bs az gd ao K U=>K2 l n a e q 1 (bs.getD 0 0) ar (by omega) (by omega) (by omega) hw (by omega) aA a (by omega) (by omega) (by omega) az gd K (cY.up ao aJ) (fun gY de df dh ba=>U (gY,de,df,dh) ba)) ?_
     rintro ⟨eM,iV,jw,jO⟩ k8
     dsimp only at k8
     have K8:=k8.bD
     have K9:=k8.ab
     have La:=k8.dd
     refine rt rfl fun _=>?_
     show K (.agg [.int .i64 eM.kind, .int .i64 eM.v.kind, .int .i64 eM.v.n, .str eM.v.s, .slice false (eM.v.l.map cm), .slice false (eM.v.f.map bB), .str eM.s, .str eM.t, .slice false (eM.a.map dv), .slice false (eM.n.map cf)]) (ad.aX m [(r, .cells [.slice false (l.map cl), .int .i64 iV, .int .i64 n, .err 115 jw, .int .i64 jO])])
     refine U eM _ _ _ ?_
     rw [cQ,if_neg (ew (b5 aA)),if_neg (ew (fF aA)),if_neg (ew (jv aA)),if_neg (ew (kb aA)),if_pos (yP aN).2]
     exact k8
   refine fE [0] [bP l n a e q] (e6 (qx l 3 ([]) a e)) rfl (fun bs az gd=>Fi l n a e q 3 ([]) (bs.getD 0 0) ar (by omega) (by omega) (by omega) az gd) ?_
   refine an (fun bE=>?_) (fun bE=>?_)
   · refine dK 115 [0] (σ:=ak×Int×Int×Int) (fun ⟨nK,ov,iG,jx⟩=>(bY l (eL l n 3 ([]) a) nK a e q ov iG jx)∧(iG≠0→nK=[])) (fun ⟨nK,ov,iG,jx⟩=>bf nK) (fun ⟨nK,ov,iG,jx⟩=>[bP l n ov iG jx]) rfl (fun _=>rfl) (fun bs az gd ao K U=>nG l n a e q 3 ([]) (bs.getD 0 0) ar (by omega) (by omega) (by omega) az gd K (fun fJ de df dh ba aA=>U (fJ,de,df,dh) ⟨ba,aA⟩)) ?_
     rintro ⟨nK,ov,iG,jx⟩ mw
     dsimp only at mw
     obtain ⟨mw,aaH⟩:=mw
     have Vz:=mw.bD
     have VA:=mw.ab
     have VB:=mw.dd
     refine rt rfl fun _=>?_
     show K (.agg [.int .i64 1, .int .i64 2, .int .i64 0, .str nK, .slice false [], .slice false [], .str ([]), .str ([]), .slice false [], .slice false []]) (ad.aX m [(r, .cells [.slice false (l.map cl), .int .i64 ov, .int .i64 n, .err 115 iG, .int .i64 jx])])
     obtain ⟨cH,dO,lJ⟩:=V5 aA (yP bE).2 mw
     have bG:=kG (yP bE).2
     subst cH;subst dO
     refine U (hJ (.mk 2 0 (aa l a).2.2 [] [])) _ _ _ ?_
     rw [cQ,if_neg (ew (b5 aA)),if_neg (ew (fF aA)),if_neg (ew (jv aA)),if_neg (ew (kb aA)),if_neg (ew (Bq aN aA)),if_pos (yP bE).2]
     exact bY.V6 bG aA lJ
   refine dK 115 [0] (σ:=aD×Int×Int×Int) (fun ⟨iY,oE,jP,kc⟩=>bY l (j9 (cQ l n k) l n a) iY a e q oE jP kc) (fun ⟨iY,oE,jP,kc⟩=>k6 iY) (fun ⟨iY,oE,jP,kc⟩=>[bP l n oE jP kc]) rfl (fun _=>rfl) (fun bs az gd ao K U=>Vr l n a e q k d (bs.getD 0 0) aQ ar (by omega) (by omega) (by omega) aA aj aY az gd K (cY.up ao aJ) (fun gY de df dh ba=>U (gY,de,df,dh) ba)) ?_
   rintro ⟨iY,oE,jP,kc⟩ nL
   dsimp only at nL
   have VS:=nL.bD
   have VT:=nL.ab
   have VU:=nL.dd
   refine rt rfl fun _=>?_
   show K (.agg [.int .i64 iY.kind, .int .i64 iY.v.kind, .int .i64 iY.v.n, .str iY.v.s, .slice false (iY.v.l.map cm), .slice false (iY.v.f.map bB), .str iY.s, .str iY.t, .slice false (iY.a.map dv), .slice false (iY.n.map cf)]) (ad.aX m [(r, .cells [.slice false (l.map cl), .int .i64 oE, .int .i64 n, .err 115 jP, .int .i64 kc])])
   refine U iY _ _ _ ?_
   rw [cQ,if_neg (ew (b5 aA)),if_neg (ew (fF aA)),if_neg (ew (jv aA)),if_neg (ew (kb aA)),if_neg (ew (Bq aN aA)),if_neg (ew (Bq bE aA))]
   exact nL
 exact absurd aA J
end Go.Proofs
end
section
namespace Go.Proofs
open Go Go.bh Go.bS
set_option maxRecDepth 100000
set_option maxHeartbeats 2000000 in
theorem Lf (l:List Tok) (n a e q:Int) (k:Nat) (d:Int) (r:Nat) (ar:l.length≤5000) (aq:0≤a) (aH:a≤l.length) (he:0≤e) (aO:e≠0∨(k=0∧d=7)) (m:ad) (gd:fx [r] m) (K:R→ad→Prop) (aJ:cY m) (U:∀bR cw b9 dA,bY l (cQ l n k a) bR a e q cw b9 dA→K (e7 bR) (ad.aX m [(r, .cells [.slice false (l.map cl), .int .i64 cw, .int .i64 n, .err 115 b9, .int .i64 dA])])):bn Tryz.prog 127 [.ptr ⟨r,0,none⟩, .int .i64 d] (ad.aX m [(r, .cells [.slice false (l.map cl), .int .i64 a, .int .i64 n, .err 115 e, .int .i64 q])]) K:=by
 refine enter (c:=cP [] [] [] [] [] [r]) (vs:=[.loc 0 0, .aK (.int .i64 d)]) (L:=[bP l n a e q]) (m:=m) false cc Tryz.mixed Tryz.func127 rfl (k:=2) (by show cJ [] _ _ _=true;decide+kernel) rfl (gd.jq rfl) ?_
 refine aZ ?_
 refine an (fun I=>?_) (fun I=>?_)
 · refine dK 115 [0] (σ:=Int×Int) (fun ⟨b3,cy⟩=>(e=0→b3=2∧cy=fp l n a)∧(e≠0→b3=e∧cy=q)∧0<b3) (fun ⟨b3,cy⟩=> .ez []) (fun ⟨b3,cy⟩=>[bP l n a b3 cy]) rfl (fun _=>rfl) (fun bs az gd ao K U=>sG l n a e q 2 (bs.getD 0 0) (by decide) ar (by omega) (by omega) (by omega) az gd K (fun z=>U (2,fp l n a) ⟨fun _=>⟨rfl,rfl⟩,fun y=>absurd z y,by decide⟩) (fun z=>U (e,q) ⟨fun y=>absurd y z,fun _=>⟨rfl,rfl⟩,by omega⟩)) ?_
   rintro ⟨b3,cy⟩ b5
   dsimp only at b5
   obtain ⟨K4,Bu,K5⟩:=b5
   refine aZ ?_
   refine an (fun J=>?_) (fun J=>?_)
   · exact absurd J (by omega)
   refine fE [0] [bP l n a b3 cy] (k6 hf) rfl (fun bs az gd=>K3 l n a b3 cy d (bs.getD 0 0) ar (by omega) (by omega) (by omega) (by omega) az gd) ?_
   refine rt rfl fun _=>?_
   show K (.agg [.int .i64 hf.kind, .int .i64 hf.v.kind, .int .i64 hf.v.n, .str hf.v.s, .slice false (hf.v.l.map cm), .slice false (hf.v.f.map bB), .str hf.s, .str hf.t, .slice false (hf.a.map dv), .slice false (hf.n.map cf)]) (ad.aX m [(r, .cells [.slice false (l.map cl), .int .i64 a, .int .i64 n, .err 115 b3, .int .i64 cy])])
   refine U hf _ _ _ ?_
   by_cases aA:e=0
   · obtain ⟨rfl,_⟩:=aO.resolve_left (fun h=>h aA)
     rw [cQ]
     exact bY.bad _ aH K4 Bu K5
   · obtain ⟨rfl,rfl⟩:=Bu aA
     exact bY.stuck aA he aH
 refine aZ ?_
 refine an (fun ai=>?_) (fun ai=>?_)
 · exact absurd ai (by omega)
 refine fE [0] [bP l n a e q] (k6 hf) rfl (fun bs az gd=>K3 l n a e q d (bs.getD 0 0) ar (by omega) (by omega) (by omega) (by omega) az gd) ?_
 refine rt rfl fun _=>?_
 show K (.agg [.int .i64 hf.kind, .int .i64 hf.v.kind, .int .i64 hf.v.n, .str hf.v.s, .slice false (hf.v.l.map cm), .slice false (hf.v.f.map bB), .str hf.s, .str hf.t, .slice false (hf.a.map dv), .slice false (hf.n.map cf)]) (ad.aX m [(r, .cells [.slice false (l.map cl), .int .i64 a, .int .i64 n, .err 115 e, .int .i64 q])])
 refine U hf _ _ _ ?_
 exact bY.stuck (by omega) he aH
theorem Lg (l:List Tok) (n:Int) (ar:l.length≤5000) (hw:sI l):∀(k:Nat),k≤7→∀a e q d:Int,d=7- (k:Int)→0≤a→a≤l.length→0≤e→∀(r:Nat) (m:ad),fx [r] m→cY m→∀(K:R→ad→Prop),(∀bR cw b9 dA,bY l (cQ l n k a) bR a e q cw b9 dA→K (e7 bR) (ad.aX m [(r, .cells [.slice false (l.map cl), .int .i64 cw, .int .i64 n, .err 115 b9, .int .i64 dA])]))→bn Tryz.prog 127 [.ptr ⟨r,0,none⟩, .int .i64 d] (ad.aX m [(r, .cells [.slice false (l.map cl), .int .i64 a, .int .i64 n, .err 115 e, .int .i64 q])]) K
 |0,_=>fun a e q d aY aq aH he r m gd aJ K U=>Lf l n a e q 0 d r ar aq aH he (.inr ⟨rfl,by omega⟩) m gd K aJ U
 |k+1,aj=>fun a e q d aY aq aH he r m gd aJ K U=>by
  by_cases aA:e=0
  · exact V7 l n a e q k d r (Lg l n ar hw k (by omega)) ar aq aH he hw (by omega) (by omega) aA m gd K aJ U
  · exact Lf l n a e q (k+1) d r ar aq aH he (.inl aA) m gd K aJ U
end Go.Proofs
end
