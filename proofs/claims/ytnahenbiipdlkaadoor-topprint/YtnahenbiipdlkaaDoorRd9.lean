/-
  Stacks that a law is handed read as typed data.
-/
import Derived.Test.YtnahenbiipdlkaaDoorTp4
import Derived.Test.YtnahenbiipdlkaaDoorWxz
section
namespace Go.Proofs
open Go Go.bb Go.b4
set_option maxRecDepth 100000
theorem Rs (s:List UInt8) (i:Nat) (b:List UInt8):(gD s i b).1=0→(gD s i b).2.1.length≤40:=by
 fun_induction gD s i b<;>simp_all<;>omega
theorem Rt {c:UInt8} (h:0≤Lib.indexByte j2 c):c∈j2:=by
 by_cases ah:c∈j2
 · exact ah
 · rw [indexByte_none (l:=j2) (c:=c) (fun j aG he=>ah (by rw [←he];simp [List.getD_eq_getElem?_getD,aG]))] at h
   omega
theorem vk {f:UInt8→Bool} {s:List UInt8} {a:Int} (aA:0≤a):sub s a (cG f s a)=(s.drop a.toNat).takeWhile f:=by
 unfold sub cG runN
 have e:(((a.toNat+((s.drop a.toNat).takeWhile f).length:Nat):Int)- a).toNat=((s.drop a.toNat).takeWhile f).length:=by omega
 rw [e]
 exact (List.prefix_iff_eq_take.1 (List.takeWhile_prefix f)).symm
theorem Ru {s:List UInt8} {a:Int} (aA:0≤a) (aN:a<s.length):s.drop a.toNat=U s a::s.drop (a.toNat+1):=by
 have h:a.toNat<s.length:=by omega
 rw [List.drop_eq_getElem_cons h]
 simp [U,List.getD_eq_getElem?_getD,h]
theorem Rv {s:List UInt8} {a:Int} (aA:0≤a) (aN:a<s.length) (he:(eP s a).2.2.2=0):Good ((eP s a).1,a,(eP s a).2.1):=by
 have a7:=Ru aA aN
 unfold eP at he ⊢
 split at he<;>rename_i I
 · rw [if_pos I]
   split at he<;>rename_i J
   · cases he
   · rw [if_neg J]
     left
     refine ⟨rfl,?_,?_,?_⟩
     · show (sub s a (cG fH s a)).length≤12
       unfold sub
       rw [List.length_take];omega
     · intro c ah
       rw [show (1,sub s a (cG fH s a),cG fH s a,(0:Int)).2.1=sub s a (cG fH s a) from rfl,vk aA] at ah
       exact List.all_eq_true.1 List.all_takeWhile c ah
     · show ∃c r,sub s a (cG fH s a)=c::r∧_
       rw [vk aA,a7,List.takeWhile_cons,if_pos (by simp [fH,I])]
       exact ⟨_,_,rfl,I⟩
 · rw [if_neg I]
   split at he<;>rename_i J
   · rw [if_pos J]
     split at he<;>rename_i ak
     · cases he
     · rw [if_neg ak]
       right;left
       have aw:sub s a (cG dK s a)=U s a::(s.drop (a.toNat+1)).takeWhile dK:=by
        rw [vk aA,a7,List.takeWhile_cons,if_pos J]
       have hlen:(sub s a (cG dK s a)).length=(cG dK s a- a).toNat:=by
        rw [vk aA];unfold cG runN;omega
       refine ⟨rfl,?_,?_,?_⟩
       · show (sub s a (cG dK s a)).length≤10
         omega
       · intro c ah
         rw [show (2,sub s a (cG dK s a),cG dK s a,(0:Int)).2.1=sub s a (cG dK s a) from rfl,vk aA] at ah
         exact List.all_eq_true.1 List.all_takeWhile c ah
       · refine ⟨_,_,aw,fun aH=>?_⟩
         rw [aw,List.length_cons] at hlen
         have aQ:¬(a+1<cG dK s a):=fun aQ=>ak (.inr ⟨by omega,aQ⟩)
         exact List.length_eq_zero_iff.1 (by omega)
   · rw [if_neg J]
     split at he<;>rename_i ak
     · rw [if_pos ak]
       have aH:(fm s (a+1) []).1=0:=he
       rw [if_pos aH]
       right;right;left
       exact ⟨rfl,Rs _ _ _ aH⟩
     · rw [if_neg ak]
       split at he<;>rename_i aH
       · rw [if_pos aH]
         right;right;right
         exact ⟨rfl, .inl rfl⟩
       · rw [if_neg aH]
         split at he<;>rename_i aQ
         · rw [if_pos aQ]
           right;right;right
           refine ⟨rfl, .inr ⟨U s a,?_,Rt aQ⟩⟩
           show sub s a (a+1)=_
           unfold sub
           rw [a7,show (a+1- a).toNat=1 by omega];rfl
         · cases he
def xM (l:List Tok):Prop:=∀t∈l,t.1=1→bJ t.2.2=true
theorem Rw {k p:Int} {w:al} (h:Good (k,p,w)) (ai:k=1):bJ w=true:=by
 subst ai
 rcases h with ⟨_,J,ak,c,q,aH,aQ⟩|⟨I,_⟩|⟨I,_⟩|⟨I,_⟩
 · simp only at J ak aH
   have key:∀(s:al),(∀c∈s,fH c=true)→ky s false=true:=fun s=>by
    induction s with
    |nil=>intro _;rfl
    |cons c r aO=>
     intro aL
     have I:=aL c (List.mem_cons_self ..)
     have ay:l0 c=jx c:=rfl
     have az:mL c=dK c:=rfl
     rw [ky,aO fun d a7=>aL d (List.mem_cons_of_mem _ a7),ay,az,Bool.and_true]
     simpa [fH] using I
   have ay:l0 c=jx c:=rfl
   subst aH
   unfold bJ
   rw [ky,key q fun d a7=>ak d (List.mem_cons_of_mem _ a7),ay,aQ]
   simp only [List.length_cons] at J ⊢
   simp;omega
 · cases I
 · cases I
 · cases I
theorem xN (s:al):∀(n:Nat) (a:Int) (out:List Tok),0≤a→xM out→(fB n s a out).2.2=0→xM (fB n s a out).1
 |0,a,out,_,h,_=>h
 |n+1,a,out,aA,h,he=>by
  by_cases aN:a<s.length
  · by_cases lQ:((U s a).toNat:Int)=32∨((U s a).toNat:Int)=10
    · rw [AL aN lQ] at he ⊢
      exact xN s n (a+1) out (by omega) h he
    · by_cases BN:((U s a).toNat:Int)=35
      · rw [FG aN BN] at he ⊢
        have:=q1 od (s:=s) aA
        exact xN s n _ out (by omega) h he
      · by_cases I:(eP s a).2.2.2=0
        · rw [AM aN lQ BN I] at he ⊢
          have Hz:=FK aA aN I
          refine xN s n _ _ (by omega) (fun t an ai=>?_) he
          rcases List.mem_append.1 an with an|an
          · exact h t an ai
          · rw [List.mem_singleton.1 an] at ai ⊢
            exact Rw (Rv aA aN I) ai
        · rw [FH aN lQ BN I] at he
          exact absurd he I
  · rw [AK (by omega)]
    exact h
theorem Rx {s:al} (he:(dL s).2.2=0):xM (dL s).1:=by
 unfold dL at he ⊢
 split
 · exact fun t an=>by cases an
 · rename_i h
   rw [if_neg h] at he
   exact xN s _ 0 [] (Int.le_refl _) (fun t an=>by cases an) he
def hD {α:Type} (Q:α→Prop) (p:bm α):Prop:=p.f=0→Q p.x
section
variable {α β:Type} {u:α→Prop} {Q:β→Prop}
theorem hD.bad [Inhabited β] {f s:Int} (h:f≠0):hD Q (.bad f s:bm β):=fun e=>absurd e h
theorem hD.ok {x:β} {a:Int} (h:Q x):hD Q (.ok x a):=fun _=>h
theorem hD.bind [Inhabited β] {p:bm α} {g:α→Int→bm β} (h:hD u p) (J:∀x a,u x→hD Q (g x a)):hD Q (p.bind g):=by
 rw [bm.bind]
 split
 · rename_i e;exact J _ _ (h e)
 · rename_i e;exact .bad e
end
theorem rm {α:Type} (p:bm α):hD (fun _=>True) p:=fun _=>trivial
section
variable {l:List Tok} {n:Int} (hw:xM l)
include hw in
theorem sX (a:Int):hD (fun s=>bJ s=true) (ck l n 1 [] a):=by
 rw [ck]
 split
 · rename_i h
   refine .ok ?_
   have I:=hi h
   simp only [bV,Bool.and_eq_true,beq_iff_eq] at h
   by_cases av:a.toNat<l.length
   · refine hw _ ?_ h.1.2
     simp [U,List.getD_eq_getElem?_getD,av]
   · have:U l a=default:=by simp [U,List.getD_eq_getElem?_getD,List.getElem?_eq_none (by omega:l.length≤a.toNat)]
     rw [this] at h
     exact absurd h.1.2 (by decide)
 · exact .bad (by decide)
theorem HF {a:Int} (h:(hN l n a).f=0):dm (hN l n a).x=0:=by
 unfold hN bm.bind at h ⊢
 split
 · rename_i I
   rw [if_pos I] at h
   dsimp only at h ⊢
   split
   · assumption
   · rename_i J;rw [if_neg J] at h;exact absurd h J
 · rename_i I;rw [if_neg I] at h;exact absurd h I
theorem Ry (a:Int):hD (fun v:a6=>v.kind≤3∧bH v=0) (oi l n a):=by
 rw [oi]
 refine (rm _).bind fun x a _=>?_
 split
 · rename_i h
   refine .ok ?_
   have:=h.2
   unfold oh at this
   simpa using this
 · exact .bad (by decide)
include hw in
theorem HG {b6:Type} [Inhabited b6] {R:b6→Prop} {T:List (al×a6)→Int→bm b6} (aC:∀(xs:List (al×a6)) (a:Int),xs.length≤8→(∀p∈xs,bJ p.1=true∧p.2.kind≤3∧bH p.2=0)→hD R (T xs a)):
 ∀(k:Nat) (a:Int) (xs:List (al×a6)),xs.length≤8→(∀p∈xs,bJ p.1=true∧p.2.kind≤3∧bH p.2=0)→hD R (lx l n T k a xs)
 |0,_,_,_,_=> .bad (by decide)
 |k+1,a,xs,cA,h=>by
  rw [lx]
  split
  · split
    · exact .bad (by decide)
    · refine (sX hw _).bind fun m _ hm=>(rm _).bind fun _ _ _=>(Ry _).bind fun v _ ba=>HG aC k _ _ (by simp;omega) fun p aB=>?_
      rcases List.mem_append.1 aB with aB|aB
      · exact h p aB
      · rw [List.mem_singleton.1 aB];exact ⟨hm,ba⟩
  · exact aC _ _ cA h
include hw in
theorem HH {b6:Type} [Inhabited b6] {R:b6→Prop} {T:List (al×ar)→Int→bm b6} (aC:∀(xs:List (al×ar)) (a:Int),xs.length≤8→(∀p∈xs,bJ p.1=true∧dm p.2=0)→hD R (T xs a)):
 ∀(k:Nat) (a:Int) (xs:List (al×ar)),xs.length≤8→(∀p∈xs,bJ p.1=true∧dm p.2=0)→hD R (lA l n T k a xs)
 |0,_,_,_,_=> .bad (by decide)
 |k+1,a,xs,cA,h=>by
  rw [lA]
  split
  · split
    · exact .bad (by decide)
    · refine (sX hw _).bind fun m _ hm=>(rm _).bind fun _ _ _=>hD.bind (u:=fun e=>dm e=0) HF fun v _ ba=>HH aC k _ _ (by simp;omega) fun p aB=>?_
      rcases List.mem_append.1 aB with aB|aB
      · exact h p aB
      · rw [List.mem_singleton.1 aB];exact ⟨hm,ba⟩
  · exact aC _ _ cA h
theorem Rz {xs:List (al×ar)} {m:al} {e:ar} (h:jd (xs.map Prod.fst)) (hm:bJ m=true) (ag:¬sQ xs m):jd ((xs++[(m,e)]).map Prod.fst):=by
 intro i aA ab
 rw [List.length_map,List.length_append] at ab
 simp only [List.length_cons,List.length_nil] at ab
 have BO:∀j:Int,0≤j→j<xs.length→U ((xs++[(m,e)]).map Prod.fst) j=U (xs.map Prod.fst) j:=fun j Tt vL=>by
  have aJ:j.toNat<(xs.map Prod.fst).length:=by rw [List.length_map];omega
  rw [List.map_append]
  simp only [U,List.getD_eq_getElem?_getD,List.getElem?_append_left aJ]
 have RA:U ((xs++[(m,e)]).map Prod.fst) (xs.length:Int)=m:=by
  rw [List.map_append]
  simp [U,List.getD_eq_getElem?_getD]
 rcases Int.lt_or_le i xs.length with bN|th
 · have:=h i aA (by rw [List.length_map];omega)
   rw [BO i aA bN]
   refine ⟨this.1,fun aB=>?_⟩
   rw [BO (i- 1) (by omega) (by omega)]
   exact this.2 aB
 · obtain rfl:i=xs.length:=by omega
   rw [RA]
   refine ⟨hm,fun aB=>?_⟩
   rw [BO _ (by omega) (by omega),rh (f:=Prod.fst) (by omega) (by omega)]
   cases ah:Op.bytesLess (U xs ((xs.length:Int)- 1)).1 m with
   |true=>rfl
   |false=>exact absurd ⟨aB,ah⟩ ag
include hw in
theorem HI {b6:Type} [Inhabited b6] {R:b6→Prop} {T:List (al×ar)→Int→bm b6} (aC:∀(xs:List (al×ar)) (a:Int),xs.length≤6→(∀p∈xs,bJ p.1=true∧dm p.2=0)→jd (xs.map Prod.fst)→hD R (T xs a)):
 ∀(k:Nat) (a:Int) (xs:List (al×ar)),xs.length≤6→(∀p∈xs,bJ p.1=true∧dm p.2=0)→jd (xs.map Prod.fst)→hD R (jA l n T k a xs)
 |0,_,_,_,_,_=> .bad (by decide)
 |k+1,a,xs,bw,h,di=>by
  have g:∀a,hD R (ri l n (jA l n T k) xs a):=fun a=>by
   rw [ri]
   split
   · exact .bad (by decide)
   · refine (sX hw _).bind fun m a hm=>?_
     rw [vb]
     split
     · exact .bad (by decide)
     · rename_i ag
       refine (rm _).bind fun _ _ _=>hD.bind (u:=fun e=>dm e=0) HF fun e _ he=>HI aC k _ _ (by simp;omega) (fun p aB=>?_) (Rz di hm ag)
       rcases List.mem_append.1 aB with aB|aB
       · exact h p aB
       · rw [List.mem_singleton.1 aB];exact ⟨hm,he⟩
  rw [jA]
  split
  · exact aC _ _ bw h di
  · rw [jz]
    split
    · exact g _
    · exact (rm _).bind fun _ _ _=>g _
theorem RB:jd []:=fun i aA ab=>by simp at ab;omega
include hw in
theorem RC (a:Int):hD qc (ly l n a):=by
 rw [ly]
 exact (sX hw _).bind fun k _ ai=>(sX hw _).bind fun m _ hm=>(rm _).bind fun _ _ _=>HI hw (fun xs _ bw h di=> .ok ⟨ai,hm,bw,h,di⟩) _ _ [] (by simp) (fun p aB=>by cases aB) RB
include hw in
theorem HJ {b6:Type} [Inhabited b6] {R:b6→Prop} {T:List e7→Int→bm b6} (aC:∀(xs:List e7) (a:Int),xs.length≤8→(∀x∈xs,qc x)→hD R (T xs a)):
 ∀(k:Nat) (a:Int) (xs:List e7),xs.length≤8→(∀x∈xs,qc x)→hD R (lz l n T k a xs)
 |0,_,_,_,_=> .bad (by decide)
 |k+1,a,xs,cA,h=>by
  rw [lz]
  split
  · split
    · exact .bad (by decide)
    · refine (RC hw _).bind fun x _ ao=>HJ aC k _ _ (by simp;omega) fun p aB=>?_
      rcases List.mem_append.1 aB with aB|aB
      · exact h p aB
      · rw [List.mem_singleton.1 aB];exact ao
  · exact aC _ _ cA h
include hw in
theorem RD (a:Int):hD om (lB l n a):=by
 rw [lB]
 exact (rm _).bind fun _ _ _=>(sX hw _).bind fun m _ hm=>HG hw (fun i _ i8 ab=>HJ hw (fun r _ RE aw=>HH hw (fun o _ RF aD=> .ok ⟨hm,i8,RE,RF,ab,aw,aD⟩) _ _ [] (by simp) fun p aB=>by cases aB) _ _ [] (by simp) fun p aB=>by cases aB) _ _ [] (by simp) fun p aB=>by cases aB
include hw in
theorem HK:∀(k:Nat) (a:Int) (xs:List df),xs.length≤8→(∀x∈xs,om x)→hD (fun ss:List df=>ss.length≤8∧∀s∈ss,om s) (iM l n k a xs)
 |0,_,_,_,_=> .bad (by decide)
 |k+1,a,xs,cA,h=>by
  rw [iM]
  split
  · split
    · exact .bad (by decide)
    · refine (RD hw _).bind fun x _ ao=>HK k _ _ (by simp;omega) fun p aB=>?_
      rcases List.mem_append.1 aB with aB|aB
      · exact h p aB
      · rw [List.mem_singleton.1 aB];exact ao
  · exact .ok ⟨cA,h⟩
end
theorem HL:∀{l:List (al×a6)},(∀p∈l,bJ p.1=true∧p.2.kind≤3∧bH p.2=0)→me l=0
 |[],_=>rfl
 |x::r,h=>by rw [me,if_pos (h x (List.mem_cons_self ..))];exact HL fun p aB=>h p (List.mem_cons_of_mem _ aB)
theorem HM:∀{l:List (al×ar)},(∀p∈l,bJ p.1=true∧dm p.2=0)→kY l=0
 |[],_=>by rw [kY]
 |x::r,h=>by
  have I:=h x (List.mem_cons_self ..)
  rw [kY,if_pos I.1,if_pos I.2];exact HM fun p aB=>h p (List.mem_cons_of_mem _ aB)
theorem RG {l:List (al×ar)} (h:∀p∈l,bJ p.1=true∧dm p.2=0) (di:jd (l.map Prod.fst)):kW l=0:=by
 have g:∀(n:Nat) (i:Int),0≤i→i+n≤l.length→jI l n i=0:=fun n=>by
  induction n with
  |zero=>intro i _ _;rw [jI]
  |succ n aO=>
   intro i aA ab
   have I:=h _ (cy (l:=l) aA (by omega))
   have J:=di i aA (by rw [List.length_map];omega)
   rw [rh (f:=Prod.fst) aA (by omega)] at J
   rw [jI,if_pos ⟨I.1,fun aB=>by
    have:=J.2 aB
    rw [rh (f:=Prod.fst) (by omega) (by omega)] at this
    exact this⟩,if_pos I.2]
   exact aO (i+1) (by omega) (by omega)
 exact g l.length 0 (Int.le_refl _) (by omega)
theorem HN:∀{l:List e7},(∀x∈l,qc x)→kX l=0
 |[],_=>by rw [kX]
 |x::r,h=>by
  have I:=h x (List.mem_cons_self ..)
  have J:=I.l
  rw [kX,if_pos ⟨I.k,I.n⟩,if_neg (by omega),if_pos (RG I.p I.s)];exact HN fun p aB=>h p (List.mem_cons_of_mem _ aB)
theorem RH {s:df} (h:om s):fW s=0:=by
 have I:=h.li
 have J:=h.hO
 have ak:=h.bh
 rw [fW,if_neg (by rw [h.n];simp),if_neg (by omega),p6,if_neg (by rw [HL h.i];simp),p5,if_neg (by rw [HN h.r];simp),HM h.o]
theorem HO:∀{l:List df},(∀s∈l,om s)→gL l=0
 |[],_=>by rw [gL]
 |x::r,h=>by rw [gL,if_pos (RH (h x (List.mem_cons_self ..)))];exact HO fun p aB=>h p (List.mem_cons_of_mem _ aB)
theorem BP {s:al} (h:(dS s).2.2=0):((fi (dS s).1).2=0∨(fi (dS s).1).2=2)∧∀t∈(dS s).1,om t:=by
 have key:(dS s).1.length≤8∧∀t∈(dS s).1,om t:=by
  rw [dS] at h ⊢
  split at h
  · rename_i I
    rw [if_pos I]
    split at h
    · rename_i J
      rw [if_pos J]
      exact HK (l:=(dL s).1) (n:=s.length) (Rx I) _ 0 [] (by simp) (fun x ao=>by cases ao) J
    · rename_i J;exact absurd h J
  · rename_i I;exact absurd h I
 refine ⟨?_,key.2⟩
 have cA:=key.1
 rw [fi,if_neg (by omega),if_pos (HO key.2)]
 split
 · exact .inr rfl
 · exact .inl rfl
end Go.Proofs
end
section
namespace Go.Proofs
open Go Go.bb Go.b4
set_option maxRecDepth 100000
def vl:df:=⟨[97],[],[],[]⟩
theorem RI:dS [115,116,97,99,107,32,97]=([vl],0,0):=by kernel_rfl
theorem BQ (l:List df):(fi l).1.length≤4000:=by
 rw [fi]
 split
 · simp
 · split
   · split
     · simp
     · show (eV im l).length≤4000;omega
   · simp
theorem BR {l:List df} (h:(fi l).2=0):∀s∈l,∀x∈s.res,x.parts.length≤1000000:=by
 have he:gL l=0:=by
  rw [fi] at h
  split at h
  · cases h
  · split at h
    · assumption
    · exact absurd h (by assumption)
 intro s aj x ao
 have:=((HE (BL he s aj)).r x ao).l;omega
theorem BS {s:al} (h:(dS s).2.2=0):∀t∈(dS s).1,∀x∈t.res,x.parts.length≤1000000:=fun t an x ao=>by
 have:=(((BP h).2 t an).r x ao).l;omega
set_option maxHeartbeats 4000000 in
theorem RJ (l:List df) (m:ae) (K:aa→ae→Prop) (ad:∀b:Bool,(b=true→(l.length:Int)≤12)→K (.bool b) m):bp Tryd.prog 25 [.slice false (l.map ew)] m K:=by
 refine enter (c:=dF [28,64,72,93,97,121,129,149,157] [0] [9,16,23,27] [] [] []) (vs:=[.aI (.slice false (l.map ew))]) (L:=[]) (m:=m) false cw Tryd.mixed Tryd.func25 rfl (k:=1) (by show du [] _ _ _=true;decide+kernel) rfl (Good.nil m) ?_
 refine ⟨fun b2=>?_⟩
 have rf:l.length≤140737488355328:=dT (o:=false) (b2 0).1
 refine aU ?_
 refine cl ?_
 refine ax (fun I=>?_) (fun I=>?_)
 · refine b7 rfl fun _=>?_
   show K (.bool false) m
   exact ad _ (fun ag=>by first|omega|cases ag)
 refine aU ?_
 refine dE (σ:=Int×Int) [] [0,3,4] 0 (fun ⟨jn,i⟩=>([(0,aX (l.map ew)),(3,aK jn),(4,aK i)],[],m)) (fun ⟨jn,i⟩=>0≤i∧i≤l.length) (fun ⟨jn,i⟩=>l.length- i.toNat) (0,0) ⟨rfl,rfl⟩ ?_ ?_
 · try dsimp only
   first|omega|(refine ⟨?_,?_⟩<;>first|omega|simp)|simp
 rintro ⟨jn,i⟩ aW
 dsimp only at aW
 refine aU ?_
 refine cl ?_
 refine ax (fun J=>?_) (fun J=>?_)
 · refine aU ?_
   refine eF (by omega) ?_
   refine aU ?_
   refine dc [0,3,4,5] 48 ((((decide (9000<IntKind.i64.wrap (jn+(((U l i).name).length:Int))))||(decide (12<(((U l i).ins).length:Int))))||(decide (12<(((U l i).res).length:Int))))||(decide (12<(((U l i).outs).length:Int)))) ?_ ?_
   · repeat' first
      |exact ⟨⟨_,rfl,by grind [bT.val]⟩,rfl⟩
      |refine ax (fun _=>?_) (fun _=>?_)
      |refine cl ?_
   refine ax (fun ak=>?_) (fun ak=>?_)
   · replace ak:(((9000<IntKind.i64.wrap (jn+(((U l i).name).length:Int)))∨(12<(((U l i).ins).length:Int)))∨(12<(((U l i).res).length:Int)))∨(12<(((U l i).outs).length:Int)):=((dD ak).imp (fun q=>((dD q).imp (fun q=>((dD q).imp (fun q=>(of_decide_eq_true q)) (fun q=>(of_decide_eq_true q)))) (fun q=>(of_decide_eq_true q)))) (fun q=>(of_decide_eq_true q)))
     refine b7 rfl fun _=>?_
     show K (.bool false) m
     exact ad _ (fun ag=>by first|omega|cases ag)
   replace ak:(((IntKind.i64.wrap (jn+(((U l i).name).length:Int))≤9000)∧((((U l i).ins).length:Int)≤12))∧((((U l i).res).length:Int)≤12))∧((((U l i).outs).length:Int)≤12):=⟨⟨⟨(Int.not_lt.1 (of_decide_eq_false (b8 (b8 (b8 ak))))),(Int.not_lt.1 (of_decide_eq_false (dC (b8 (b8 ak)))))⟩,(Int.not_lt.1 (of_decide_eq_false (dC (b8 ak))))⟩,(Int.not_lt.1 (of_decide_eq_false (dC ak)))⟩
   refine aU ?_
   refine dE (σ:=Int×Int) [] [0,3,4,5,6] 1 (fun ⟨e3,fa⟩=>([(0,aX (l.map ew)),(3,aK e3),(4,aK i),(5, .loc 0 0),(6,aK fa)],[.cells [aR ((U l i).name),aX (((U l i).ins).map fq),aX (((U l i).res).map fh),aX (((U l i).outs).map dO)]],m)) (fun ⟨e3,fa⟩=>0≤fa∧fa≤(U l i).ins.length) (fun ⟨e3,fa⟩=>(U l i).ins.length- fa.toNat) (IntKind.i64.wrap (jn+(((U l i).name).length:Int)),0) ⟨rfl,rfl⟩ ?_ ?_
   · try dsimp only
     first|omega|(refine ⟨?_,?_⟩<;>first|omega|simp)|simp
   rintro ⟨e3,fa⟩ cR
   dsimp only at cR
   refine aU ?_
   refine cl ?_
   refine ax (fun aH=>?_) (fun aH=>?_)
   · refine aU ?_
     refine eF (by omega) ?_
     refine eF (by omega) ?_
     refine h9 (fun _=>Ax 9000 (dq ((U ((U l i).ins) fa).2)+1) ((U ((U l i).ins) fa).2) (Nat.lt_succ_self _)) ?_
     refine ax (by omega) ?_
     refine ⟨(IntKind.i64.wrap ((IntKind.i64.wrap (e3+(((U ((U l i).ins) fa).1).length:Int)))+(kv 9000 ((U ((U l i).ins) fa).2))),fa+1),⟨rfl,rfl⟩,?_,?_⟩
     · try dsimp only
       (first|omega|(simp_all;done)|(simp_all;omega))
     try dsimp only
     omega
   refine aU ?_
   refine dE (σ:=Int×Int) [] [0,3,4,5,7] 1 (fun ⟨mG,eg⟩=>([(0,aX (l.map ew)),(3,aK mG),(4,aK i),(5, .loc 0 0),(7,aK eg)],[.cells [aR ((U l i).name),aX (((U l i).ins).map fq),aX (((U l i).res).map fh),aX (((U l i).outs).map dO)]],m)) (fun ⟨mG,eg⟩=>0≤eg∧eg≤(U l i).res.length) (fun ⟨mG,eg⟩=>(U l i).res.length- eg.toNat) (e3,0) ⟨rfl,rfl⟩ ?_ ?_
   · try dsimp only
     first|omega|(refine ⟨?_,?_⟩<;>first|omega|simp)|simp
   rintro ⟨mG,eg⟩ il
   dsimp only at il
   refine aU ?_
   refine dc [0,3,4,5,7] 81 ((decide (eg<(((U l i).res).length:Int)))&&(decide (mG<9000))) ?_ ?_
   · repeat' first
      |exact ⟨⟨_,rfl,by grind [bT.val]⟩,rfl⟩
      |refine ax (fun _=>?_) (fun _=>?_)
      |refine cl ?_
   refine ax (fun aQ=>?_) (fun aQ=>?_)
   · replace aQ:(eg<(((U l i).res).length:Int))∧(mG<9000):=⟨(of_decide_eq_true (fC aQ)),(of_decide_eq_true (gS aQ))⟩
     refine aU ?_
     refine eF (by omega) ?_
     refine aU ?_
     refine cl ?_
     refine ax (fun bw=>?_) (fun bw=>?_)
     · refine b7 rfl fun _=>?_
       show K (.bool false) m
       exact ad _ (fun ag=>by first|omega|cases ag)
     refine dE (σ:=Int×Int) [] [0,3,4,5,7,8,9] 2 (fun ⟨mH,gy⟩=>([(0,aX (l.map ew)),(3,aK mH),(4,aK i),(5, .loc 0 0),(7,aK eg),(8, .loc 1 0),(9,aK gy)],[.cells [aR ((U l i).name),aX (((U l i).ins).map fq),aX (((U l i).res).map fh),aX (((U l i).outs).map dO)], .cells [aR ((U ((U l i).res) eg).kind),aR ((U ((U l i).res) eg).name),aX (((U ((U l i).res) eg).parts).map dO)]],m)) (fun ⟨mH,gy⟩=>0≤gy∧gy≤(U (U l i).res eg).parts.length) (fun ⟨mH,gy⟩=>(U (U l i).res eg).parts.length- gy.toNat) (IntKind.i64.wrap ((IntKind.i64.wrap (mG+(((U ((U l i).res) eg).kind).length:Int)))+(((U ((U l i).res) eg).name).length:Int)),0) ⟨rfl,rfl⟩ ?_ ?_
     · try dsimp only
       first|omega|(refine ⟨?_,?_⟩<;>first|omega|simp)|simp
     rintro ⟨mH,gy⟩ pe
     dsimp only at pe
     refine aU ?_
     refine dc [0,3,4,5,7,8,9] 110 ((decide (gy<(((U ((U l i).res) eg).parts).length:Int)))&&(decide (mH<9000))) ?_ ?_
     · repeat' first
        |exact ⟨⟨_,rfl,by grind [bT.val]⟩,rfl⟩
        |refine ax (fun _=>?_) (fun _=>?_)
        |refine cl ?_
     refine ax (fun db=>?_) (fun db=>?_)
     · replace db:(gy<(((U ((U l i).res) eg).parts).length:Int))∧(mH<9000):=⟨(of_decide_eq_true (fC db)),(of_decide_eq_true (gS db))⟩
       refine aU ?_
       refine eF (by omega) ?_
       refine eF (by omega) ?_
       refine h9 (fun _=>Br 9000 (dN ((U ((U ((U l i).res) eg).parts) gy).2)+1) ((U ((U ((U l i).res) eg).parts) gy).2) (Nat.lt_succ_self _)) ?_
       refine ax (by omega) ?_
       refine ⟨(IntKind.i64.wrap ((IntKind.i64.wrap (mH+(((U ((U ((U l i).res) eg).parts) gy).1).length:Int)))+(mM 9000 ((U ((U ((U l i).res) eg).parts) gy).2))),gy+1),⟨rfl,rfl⟩,?_,?_⟩
       · try dsimp only
         (first|omega|(simp_all;done)|(simp_all;omega))
       try dsimp only
       omega
     replace db:((((U ((U l i).res) eg).parts).length:Int)≤gy)∨(9000≤mH):=((gT db).imp (fun q=>(Int.not_lt.1 (of_decide_eq_false q))) (fun q=>(Int.not_lt.1 (of_decide_eq_false q))))
     refine ax (by omega) ?_
     refine ⟨(mH,eg+1),⟨rfl,rfl⟩,?_,?_⟩
     · try dsimp only
       (first|omega|(simp_all;done)|(simp_all;omega))
     try dsimp only
     omega
   replace aQ:((((U l i).res).length:Int)≤eg)∨(9000≤mG):=((gT aQ).imp (fun q=>(Int.not_lt.1 (of_decide_eq_false q))) (fun q=>(Int.not_lt.1 (of_decide_eq_false q))))
   refine aU ?_
   refine dE (σ:=Int×Int) [] [0,3,4,5,10] 1 (fun ⟨mc,j8⟩=>([(0,aX (l.map ew)),(3,aK mc),(4,aK i),(5, .loc 0 0),(10,aK j8)],[.cells [aR ((U l i).name),aX (((U l i).ins).map fq),aX (((U l i).res).map fh),aX (((U l i).outs).map dO)]],m)) (fun ⟨mc,j8⟩=>0≤j8∧j8≤(U l i).outs.length) (fun ⟨mc,j8⟩=>(U l i).outs.length- j8.toNat) (mG,0) ⟨rfl,rfl⟩ ?_ ?_
   · try dsimp only
     first|omega|(refine ⟨?_,?_⟩<;>first|omega|simp)|simp
   rintro ⟨mc,j8⟩ pe
   dsimp only at pe
   refine aU ?_
   refine dc [0,3,4,5,10] 138 ((decide (j8<(((U l i).outs).length:Int)))&&(decide (mc<9000))) ?_ ?_
   · repeat' first
      |exact ⟨⟨_,rfl,by grind [bT.val]⟩,rfl⟩
      |refine ax (fun _=>?_) (fun _=>?_)
      |refine cl ?_
   refine ax (fun cA=>?_) (fun cA=>?_)
   · replace cA:(j8<(((U l i).outs).length:Int))∧(mc<9000):=⟨(of_decide_eq_true (fC cA)),(of_decide_eq_true (gS cA))⟩
     refine aU ?_
     refine eF (by omega) ?_
     refine eF (by omega) ?_
     refine h9 (fun _=>Br 9000 (dN ((U ((U l i).outs) j8).2)+1) ((U ((U l i).outs) j8).2) (Nat.lt_succ_self _)) ?_
     refine ax (by omega) ?_
     refine ⟨(IntKind.i64.wrap ((IntKind.i64.wrap (mc+(((U ((U l i).outs) j8).1).length:Int)))+(mM 9000 ((U ((U l i).outs) j8).2))),j8+1),⟨rfl,rfl⟩,?_,?_⟩
     · try dsimp only
       (first|omega|(simp_all;done)|(simp_all;omega))
     try dsimp only
     omega
   replace cA:((((U l i).outs).length:Int)≤j8)∨(9000≤mc):=((gT cA).imp (fun q=>(Int.not_lt.1 (of_decide_eq_false q))) (fun q=>(Int.not_lt.1 (of_decide_eq_false q))))
   refine ax (fun dx=>?_) (fun dx=>?_)
   · refine b7 rfl fun _=>?_
     show K (.bool false) m
     exact ad _ (fun ag=>by first|omega|cases ag)
   refine ax (by omega) ?_
   refine ⟨(mc,i+1),⟨rfl,rfl⟩,?_,?_⟩
   · try dsimp only
     (first|omega|(simp_all;done)|(simp_all;omega))
   try dsimp only
   omega
 refine b7 rfl fun _=>?_
 show K (.bool true) m
 exact ad _ (fun ag=>by first|omega|cases ag)
theorem HP (e:Int) (m:ae) (K:aa→ae→Prop) (ad:K (.int .i64 e) m):bp Tryd.prog 17 [.err 72 e] m K:=by
 refine enter (c:=dF [] [] [] [] [] []) (vs:=[.aI (.err 72 e)]) (L:=[]) (m:=m) false cw Tryd.mixed Tryd.func17 rfl (k:=1) (by show du [] _ _ _=true;decide+kernel) rfl (Good.nil m) ?_
 refine aU ?_
 refine ax (fun I=>?_) (fun I=>?_)
 · refine b7 rfl fun _=>?_
   show K (.int .i64 0) m
   rw [I] at ad;exact ad
 refine aU ?_
 refine ax (fun J=>?_) (fun J=>?_)
 · refine b7 rfl fun _=>?_
   show K (.int .i64 (-1)) m
   exact absurd J I
 exact b7 rfl fun _=>ad
set_option maxHeartbeats 4000000 in
theorem RL (l:List df) (s:al) (m:ae) (K:aa→ae→Prop) (aC:ch m) (ad:K (.bool true) m):bp Tryd.prog 6 [.slice false (l.map ew), .str s] m K:=by
 refine enter (c:=dF [] [0] [2,9,18] [] [] []) (vs:=[.aI (.slice false (l.map ew)), .aI (.str s)]) (L:=[]) (m:=m) false cw Tryd.mixed Tryd.func6 rfl (k:=2) (by show du [] _ _ _=true;decide+kernel) rfl (Good.nil m) ?_
 refine ⟨fun b2=>?_⟩
 have rf:l.length≤140737488355328:=dT (o:=false) (b2 0).1
 refine fQ [] [] (.aI (.tuple [.slice false (([vl]:List df).map ew), .int .i64 0, .err 72 0])) rfl (fun bs aq gd an=>fun K ad=>sV ([115,116,97,99,107,32,97]:List UInt8) (by decide) aq (ch.up an aC) K (by rw [RI];exact ad)) ?_
 refine aU ?_
 refine dc [0,1] 28 ((!(0==0))||(!((([vl]:List df).length:Int)==1))) ?_ ?_
 · repeat' first
    |exact ⟨⟨_,rfl,by grind [bT.val]⟩,rfl⟩
    |refine ax (fun _=>?_) (fun _=>?_)
    |refine cl ?_
 refine ax (fun I=>?_) (fun I=>?_)
 · replace I:(0≠0)∨((([vl]:List df).length:Int)≠1):=((dD I).imp (fun q=>(ne_of_beq_false (dt q))) (fun q=>(ne_of_beq_false (dt q))))
   exact absurd I (by simp)
 replace I:(0=0)∧((([vl]:List df).length:Int)=1):=⟨(eq_of_beq (dy (b8 I))),(eq_of_beq (dy (dC I)))⟩
 refine aU ?_
 refine cc 72 [] (σ:=Bool) (fun vm=>vm=true→(l.length:Int)≤12) (fun vm=>kt vm) (fun vm=>[]) rfl (fun _=>rfl) (fun bs aq gd an K ad=>RJ l aq K (fun b ag=>ad b ag)) ?_
 rintro vm bA
 refine ax (fun J=>?_) (fun J=>?_)
 · refine ax (fun ak=>?_) (fun ak=>?_)
   · refine b7 rfl fun _=>?_
     show K (.bool true) m
     exact ad
   refine fQ [] [] (.aI (.tuple [.str ((fi l).1), .err 72 ((fi l).2)])) rfl (fun bs aq gd an=>fun K ad=>BC l aq K (ch.up an aC) ad) ?_
   refine aU ?_
   refine ax (fun aH=>?_) (fun aH=>?_)
   · refine fQ [] [] (.aI (.tuple [.slice false (l.map ew), .int .i64 0, .err 72 0])) rfl (fun bs aq gd an=>fun K ad=>sV ((fi l).1) (by have:=BQ l;omega) aq (ch.up an aC) K (by rw [BM (by assumption)];exact ad)) ?_
     refine dc [1] 57 ((!(0==0))||(!true)) ?_ ?_
     · repeat' first
        |exact ⟨⟨_,rfl,by grind [bT.val]⟩,rfl⟩
        |refine ax (fun _=>?_) (fun _=>?_)
        |refine dV (fun _=>BB l (by first|exact BR (by assumption)|exact BS (by assumption))) rfl ?_
     refine ax (fun aQ=>?_) (fun aQ=>?_)
     · replace aQ:(0≠0)∨(true=false):=((dD aQ).imp (fun q=>(ne_of_beq_false (dt q))) (fun q=>(dt q)))
       exact absurd aQ (by simp)
     replace aQ:(0=0)∧(true=true):=⟨(eq_of_beq (dy (b8 aQ))),(dy (dC aQ))⟩
     refine fQ [] [] (.aI (.tuple [.slice false (((dS s).1).map ew), .int .i64 ((dS s).2.1), .err 72 ((dS s).2.2)])) rfl (fun bs aq gd an=>fun K ad=>sV s (by omega) aq (ch.up an aC) K ad) ?_
     refine aU ?_
     refine ax (fun bw=>?_) (fun bw=>?_)
     · refine fQ [] [] (.aI (.tuple [.str ((fi ((dS s).1)).1), .err 72 ((fi ((dS s).1)).2)])) rfl (fun bs aq gd an=>fun K ad=>BC ((dS s).1) aq K (ch.up an aC) ad) ?_
       refine aU ?_
       refine ax (fun db=>?_) (fun db=>?_)
       · refine fQ [] [] (.aI (.tuple [.slice false (((dS s).1).map ew), .int .i64 0, .err 72 0])) rfl (fun bs aq gd an=>fun K ad=>sV ((fi ((dS s).1)).1) (by have:=BQ ((dS s).1);omega) aq (ch.up an aC) K (by rw [BM (by assumption)];exact ad)) ?_
         refine dc [] 4 ((0==0)&&true) ?_ ?_
         · repeat' first
            |exact ⟨⟨_,rfl,by grind [bT.val]⟩,rfl⟩
            |refine ax (fun _=>?_) (fun _=>?_)
            |refine dV (fun _=>BB ((dS s).1) (by first|exact BR (by assumption)|exact BS (by assumption))) rfl ?_
         refine b7 rfl fun _=>?_
         show K (.bool ((0==0)&&true)) m
         exact ad
       refine dV (fun _=>HP ((fi ((dS s).1)).2)) rfl ?_
       refine b7 rfl fun _=>?_
       show K (.bool (((fi ((dS s).1)).2)==2)) m
       have q:((fi (dS s).1).2==2)=true:=by
        have bZ:=(BP (s:=s) (by assumption)).1
        have bo:(fi (dS s).1).2≠0:=by assumption
        rw [beq_iff_eq];omega
       rw [q];exact ad
     refine b7 rfl fun _=>?_
     show K (.bool true) m
     exact ad
   refine fQ [] [] (.aI (.tuple [.slice false (((dS s).1).map ew), .int .i64 ((dS s).2.1), .err 72 ((dS s).2.2)])) rfl (fun bs aq gd an=>fun K ad=>sV s (by omega) aq (ch.up an aC) K ad) ?_
   refine aU ?_
   refine ax (fun cA=>?_) (fun cA=>?_)
   · refine fQ [] [] (.aI (.tuple [.str ((fi ((dS s).1)).1), .err 72 ((fi ((dS s).1)).2)])) rfl (fun bs aq gd an=>fun K ad=>BC ((dS s).1) aq K (ch.up an aC) ad) ?_
     refine aU ?_
     refine ax (fun dx=>?_) (fun dx=>?_)
     · refine fQ [] [] (.aI (.tuple [.slice false (((dS s).1).map ew), .int .i64 0, .err 72 0])) rfl (fun bs aq gd an=>fun K ad=>sV ((fi ((dS s).1)).1) (by have:=BQ ((dS s).1);omega) aq (ch.up an aC) K (by rw [BM (by assumption)];exact ad)) ?_
       refine dc [] 4 ((0==0)&&true) ?_ ?_
       · repeat' first
          |exact ⟨⟨_,rfl,by grind [bT.val]⟩,rfl⟩
          |refine ax (fun _=>?_) (fun _=>?_)
          |refine dV (fun _=>BB ((dS s).1) (by first|exact BR (by assumption)|exact BS (by assumption))) rfl ?_
       refine b7 rfl fun _=>?_
       show K (.bool ((0==0)&&true)) m
       exact ad
     refine dV (fun _=>HP ((fi ((dS s).1)).2)) rfl ?_
     refine b7 rfl fun _=>?_
     show K (.bool (((fi ((dS s).1)).2)==2)) m
     have q:((fi (dS s).1).2==2)=true:=by
      have bZ:=(BP (s:=s) (by assumption)).1
      have bo:(fi (dS s).1).2≠0:=by assumption
      rw [beq_iff_eq];omega
     rw [q];exact ad
   refine b7 rfl fun _=>?_
   show K (.bool true) m
   exact ad
 refine b7 rfl fun _=>?_
 show K (.bool true) m
 exact ad
end Go.Proofs
end
section
namespace Go.Proofs
open Go Go.bb Go.RowKit Go.WideShapes Go.ChangeShapes
set_option maxRecDepth 100000
theorem xO (v:a6):(cC v).cells.length=5:=by cases v;rfl
theorem xP (v:al×a6):(cL v).cells.length=6:=by
 obtain ⟨s,v⟩:=v
 cases v;rfl
theorem RM {n:Nat} (aO:∀k,k<n→Rd Tryd.prog k 25 cC):Rd Tryd.prog n 69 cL:=by
 intro H enc W sp cs d ps h hw
 obtain ⟨av,aM⟩:=pI Tryd.underlying69 h hw
 obtain ⟨s,_,aj⟩:=aM 0 _ cp rfl (fun _ _=>my (by rfl)) (by decide)
 obtain ⟨v,_,ba⟩:=aM 1 _ cC rfl (fun k ai=>aO k ai) (by decide)
 refine ⟨(s,v),by rw [xP,av];rfl,fun i ab=>?_⟩
 rw [av] at ab
 replace ab:i<6:=ab
 cases v with
 |mk k n t l f=>
  match i,ab with
  |0,_=>exact aj 0 (by decide)
  |1,_=>exact ba 0 (by decide)
  |2,_=>exact ba 1 (by decide)
  |3,_=>exact ba 2 (by decide)
  |4,_=>exact ba 3 (by decide)
  |5,_=>exact ba 4 (by decide)
theorem rd_val (n:Nat):Rd Tryd.prog n 25 cC:=by
 induction n using Nat.strongRecOn with
 |ind n aO=>
  intro H enc W sp cs d ps h hw
  obtain ⟨av,aM⟩:=pI Tryd.underlying25 h hw
  obtain ⟨k,_,ai⟩:=aM 0 _ mx rfl (fun _ _=>yZ (by rfl)) (by decide)
  obtain ⟨m,_,hm⟩:=aM 1 _ mx rfl (fun _ _=>yZ (by rfl)) (by decide)
  obtain ⟨s,_,aj⟩:=aM 2 _ cp rfl (fun _ _=>my (by rfl)) (by decide)
  obtain ⟨l,_,nt⟩:=aM 3 _ (ld cC) rfl (fun j aG=>oP (by rfl) (by rfl) (by decide) (by decide) xO (fun i ab=>aO i (by omega))) (by decide)
  obtain ⟨f,_,RN⟩:=aM 4 _ (ld cL) rfl (fun j aG=>oP (by rfl) (by rfl) (by decide) (by decide) xP (fun i ab=>RM (fun q aS=>aO q (by omega)))) (by decide)
  refine ⟨.mk k m s l f,by rw [xO,av];rfl,fun i ab=>?_⟩
  rw [av] at ab
  replace ab:i<5:=ab
  rw [iY]
  match i,ab with
  |0,_=>exact ai 0 (by decide)
  |1,_=>exact hm 0 (by decide)
  |2,_=>exact aj 0 (by decide)
  |3,_=>exact nt 0 (by decide)
  |4,_=>exact RN 0 (by decide)
theorem BT (e:ar):(cz e).cells.length=10:=by cases e;rfl
theorem HQ (n:Nat):Rd Tryd.prog n 29 cz:=by
 induction n using Nat.strongRecOn with
 |ind n aO=>
  intro H enc W sp cs d ps h hw
  obtain ⟨av,aM⟩:=pI Tryd.underlying29 h hw
  obtain ⟨k,_,ai⟩:=aM 0 _ mx rfl (fun _ _=>yZ (by rfl)) (by decide)
  obtain ⟨v,_,ba⟩:=aM 1 _ cC rfl (fun _ _=>rd_val _) (by decide)
  obtain ⟨s,_,aj⟩:=aM 2 _ cp rfl (fun _ _=>my (by rfl)) (by decide)
  obtain ⟨t,_,an⟩:=aM 3 _ cp rfl (fun _ _=>my (by rfl)) (by decide)
  obtain ⟨a,_,aN⟩:=aM 4 _ (ld cz) rfl (fun j aG=>oP (by rfl) (by rfl) (by decide) (by decide) BT (fun i ab=>aO i (by omega))) (by decide)
  obtain ⟨bQ,_,Du⟩:=aM 5 _ (ld cp) rfl (fun _ _=>oP (by rfl) (by rfl) (by decide) (by decide) (fun _=>rfl) (fun _ _=>my (by rfl))) (by decide)
  refine ⟨.mk k v s t a bQ,by rw [BT,av];rfl,fun i ab=>?_⟩
  rw [av] at ab
  replace ab:i<10:=ab
  rw [er]
  rw [iY] at ba
  match i,ab with
  |0,_=>exact ai 0 (by decide)
  |1,_=>exact ba 0 (by decide)
  |2,_=>exact ba 1 (by decide)
  |3,_=>exact ba 2 (by decide)
  |4,_=>exact ba 3 (by decide)
  |5,_=>exact ba 4 (by decide)
  |6,_=>exact aj 0 (by decide)
  |7,_=>exact an 0 (by decide)
  |8,_=>exact aN 0 (by decide)
  |9,_=>exact Du 0 (by decide)
theorem RO (n:Nat):Rd Tryd.prog n 101 fq:=by
 intro H enc W sp cs d ps h hw
 obtain ⟨av,aM⟩:=pI Tryd.underlying101 h hw
 obtain ⟨s,_,aA⟩:=aM 0 _ cp rfl (fun _ _=>my (by rfl)) (by decide)
 obtain ⟨v,_,I⟩:=aM 1 _ cC rfl (fun _ _=>rd_val _) (by decide)
 rw [iY] at I
 refine ⟨(s,v),av.symm,fun i ab=>?_⟩
 rw [av] at ab
 replace ab:i<6:=ab
 match i,ab with
 |0,_=>exact aA 0 (by decide)
 |1,_=>exact I 0 (by decide)
 |2,_=>exact I 1 (by decide)
 |3,_=>exact I 2 (by decide)
 |4,_=>exact I 3 (by decide)
 |5,_=>exact I 4 (by decide)
theorem RP (n:Nat):Rd Tryd.prog n 106 dO:=by
 intro H enc W sp cs d ps h hw
 obtain ⟨av,aM⟩:=pI Tryd.underlying106 h hw
 obtain ⟨s,_,aA⟩:=aM 0 _ cp rfl (fun _ _=>my (by rfl)) (by decide)
 obtain ⟨e,_,I⟩:=aM 1 _ cz rfl (fun _ _=>HQ _) (by decide)
 rw [er] at I
 refine ⟨(s,e),av.symm,fun i ab=>?_⟩
 rw [av] at ab
 replace ab:i<11:=ab
 match i,ab with
 |0,_=>exact aA 0 (by decide)
 |1,_=>exact I 0 (by decide)
 |2,_=>exact I 1 (by decide)
 |3,_=>exact I 2 (by decide)
 |4,_=>exact I 3 (by decide)
 |5,_=>exact I 4 (by decide)
 |6,_=>exact I 5 (by decide)
 |7,_=>exact I 6 (by decide)
 |8,_=>exact I 7 (by decide)
 |9,_=>exact I 8 (by decide)
 |10,_=>exact I 9 (by decide)
theorem RQ (n:Nat):Rd Tryd.prog n 107 dO:=by
 intro H enc W sp cs d ps h hw
 obtain ⟨av,aM⟩:=pI Tryd.underlying107 h hw
 obtain ⟨s,_,aA⟩:=aM 0 _ cp rfl (fun _ _=>my (by rfl)) (by decide)
 obtain ⟨e,_,I⟩:=aM 1 _ cz rfl (fun _ _=>HQ _) (by decide)
 rw [er] at I
 refine ⟨(s,e),av.symm,fun i ab=>?_⟩
 rw [av] at ab
 replace ab:i<11:=ab
 match i,ab with
 |0,_=>exact aA 0 (by decide)
 |1,_=>exact I 0 (by decide)
 |2,_=>exact I 1 (by decide)
 |3,_=>exact I 2 (by decide)
 |4,_=>exact I 3 (by decide)
 |5,_=>exact I 4 (by decide)
 |6,_=>exact I 5 (by decide)
 |7,_=>exact I 6 (by decide)
 |8,_=>exact I 7 (by decide)
 |9,_=>exact I 8 (by decide)
 |10,_=>exact I 9 (by decide)
theorem RR (n:Nat):Rd Tryd.prog n 104 fh:=by
 intro H enc W sp cs d ps h hw
 obtain ⟨av,aM⟩:=pI Tryd.underlying104 h hw
 obtain ⟨k,_,aA⟩:=aM 0 _ cp rfl (fun _ _=>my (by rfl)) (by decide)
 obtain ⟨s,_,I⟩:=aM 1 _ cp rfl (fun _ _=>my (by rfl)) (by decide)
 obtain ⟨p,_,J⟩:=aM 2 _ (ld dO) rfl (fun _ _=>oP (by rfl) (by rfl) (by decide) (by decide) (fun _=>rfl) (fun _ _=>RP _)) (by decide)
 refine ⟨⟨k,s,p⟩,av.symm,fun i ab=>?_⟩
 rw [av] at ab
 replace ab:i<3:=ab
 match i,ab with
 |0,_=>exact aA 0 (by decide)
 |1,_=>exact I 0 (by decide)
 |2,_=>exact J 0 (by decide)
theorem RS (n:Nat):Rd Tryd.prog n 99 ew:=by
 intro H enc W sp cs d ps h hw
 obtain ⟨av,aM⟩:=pI Tryd.underlying99 h hw
 obtain ⟨s,_,aA⟩:=aM 0 _ cp rfl (fun _ _=>my (by rfl)) (by decide)
 obtain ⟨a,_,I⟩:=aM 1 _ (ld fq) rfl (fun _ _=>oP (by rfl) (by rfl) (by decide) (by decide) (fun _=>rfl) (fun _ _=>RO _)) (by decide)
 obtain ⟨b,_,J⟩:=aM 2 _ (ld fh) rfl (fun _ _=>oP (by rfl) (by rfl) (by decide) (by decide) (fun _=>rfl) (fun _ _=>RR _)) (by decide)
 obtain ⟨c,_,ak⟩:=aM 3 _ (ld dO) rfl (fun _ _=>oP (by rfl) (by rfl) (by decide) (by decide) (fun _=>rfl) (fun _ _=>RQ _)) (by decide)
 refine ⟨⟨s,a,b,c⟩,av.symm,fun i ab=>?_⟩
 rw [av] at ab
 replace ab:i<4:=ab
 match i,ab with
 |0,_=>exact aA 0 (by decide)
 |1,_=>exact I 0 (by decide)
 |2,_=>exact J 0 (by decide)
 |3,_=>exact ak 0 (by decide)
theorem BU:∀(n:Nat) (v:a6),dq v<n→gC (cC v)
 |0,_,h=>absurd h (Nat.not_lt_zero _)
 |n+1,v,h=>by
  have e:=j0 v
  rw [iY,dd]
  have av:∀w∈v.l,gC (cC w):=fun w hw=>BU n w (by have:=kS hw;omega)
  have aM:∀p∈v.f,gC (cL p):=fun p aB=>by
   have J:=BU n p.2 (by have:=kT aB;omega)
   rw [iY,dd] at J
   cases J with
   |agg _ ak=>
    rw [jZ,jH]
    refine .agg _ fun y aE=>?_
    rcases List.mem_cons.1 aE with rfl|aE
    · exact .str _
    · exact ak y aE
  refine .agg _ fun y aE=>?_
  simp only [List.mem_cons,List.not_mem_nil,or_false] at aE
  rcases aE with rfl|rfl|rfl|rfl|rfl
  · exact .int _ _ (by decide)
  · exact .int _ _ (by decide)
  · exact .str _
  · refine .slice _ (fun x ao=>?_) fun x ao y aE=>?_
    · obtain ⟨w,_,rfl⟩:=List.mem_map.1 ao
      exact fun e=>by have:=xO w;rw [e] at this;cases this
    · obtain ⟨w,hw,rfl⟩:=List.mem_map.1 ao
      have J:=av w hw
      rw [iY,dd] at J
      rw [iY,dd] at aE
      cases J with
      |agg _ ak=>exact ak y aE
  · refine .slice _ (fun x ao=>?_) fun x ao y aE=>?_
    · obtain ⟨p,_,rfl⟩:=List.mem_map.1 ao
      exact fun e=>by have:=xP p;rw [e] at this;cases this
    · obtain ⟨p,aB,rfl⟩:=List.mem_map.1 ao
      have J:=aM p aB
      rw [jZ,jH] at J
      rw [jZ,jH] at aE
      cases J with
      |agg _ ak=>exact ak y aE
theorem BV (v:a6):gC (cC v):=BU _ v (Nat.lt_succ_self _)
theorem RT (p:al×a6):gC (cL p):=by
 have J:=BV p.2
 rw [iY,dd] at J
 cases J with
 |agg _ ak=>
  rw [jZ,jH]
  refine .agg _ fun y aE=>?_
  rcases List.mem_cons.1 aE with rfl|aE
  · exact .str _
  · exact ak y aE
theorem RU (l:List (al×a6)):gC (ld cL l):=by
 refine .slice _ (fun x ao=>?_) fun x ao y aE=>?_
 · obtain ⟨p,_,rfl⟩:=List.mem_map.1 ao
   exact fun e=>by have:=xP p;rw [e] at this;cases this
 · obtain ⟨p,aB,rfl⟩:=List.mem_map.1 ao
   have J:=RT p
   rw [jZ,jH] at J
   rw [jZ,jH] at aE
   cases J with
   |agg _ ak=>exact ak y aE
theorem RV (l:List al):gC (.slice false (l.map cp)):=by
 refine .slice _ (fun x ao=>?_) fun x ao y aE=>?_
 · obtain ⟨s,_,rfl⟩:=List.mem_map.1 ao
   exact List.cons_ne_nil _ _
 · obtain ⟨s,_,rfl⟩:=List.mem_map.1 ao
   rw [List.mem_singleton.1 (show y∈[aa.str s] from aE)];exact .str _
theorem RW (l:List a6):gC (.slice false (l.map cC)):=by
 refine .slice _ (fun x ao=>?_) fun x ao y aE=>?_
 · obtain ⟨w,_,rfl⟩:=List.mem_map.1 ao
   exact fun e=>by have:=xO w;rw [e] at this;cases this
 · obtain ⟨w,hw,rfl⟩:=List.mem_map.1 ao
   have J:=BV w
   rw [iY,dd] at J
   rw [iY,dd] at aE
   cases J with
   |agg _ ak=>exact ak y aE
theorem HR:∀(n:Nat) (e:ar),dN e<n→gC (cz e)
 |0,_,h=>absurd h (Nat.not_lt_zero _)
 |n+1,e,h=>by
  rw [er,cE]
  have av:∀x∈e.a,gC (cz x):=fun x ao=>HR n x (by have:=jy ao;omega)
  refine .agg _ fun y aE=>?_
  simp only [List.mem_cons,List.not_mem_nil,or_false] at aE
  rcases aE with rfl|rfl|rfl|rfl|rfl|rfl|rfl|rfl|rfl|rfl
  · exact .int _ _ (by decide)
  · exact .int _ _ (by decide)
  · exact .int _ _ (by decide)
  · exact .str _
  · exact RW _
  · exact RU _
  · exact .str _
  · exact .str _
  · refine .slice _ (fun x ao=>?_) fun x ao y aE=>?_
    · obtain ⟨w,_,rfl⟩:=List.mem_map.1 ao
      exact fun q=>by have:=BT w;rw [q] at this;cases this
    · obtain ⟨w,hw,rfl⟩:=List.mem_map.1 ao
      have J:=av w hw
      rw [er,cE] at J
      rw [er,cE] at aE
      cases J with
      |agg _ ak=>exact ak y aE
  · exact RV _
theorem RX (e:ar):gC (cz e):=HR _ e (Nat.lt_succ_self _)
theorem vn {α:Type} {f:α→aa} (ek:∀x,(f x).cells≠[]) (h:∀x,∀y∈(f x).cells,gC y) (l:List α):gC (.slice false (l.map f)):=by
 refine .slice _ (fun x ao=>?_) fun x ao y aE=>?_
 · obtain ⟨p,_,rfl⟩:=List.mem_map.1 ao
   exact ek p
 · obtain ⟨p,_,rfl⟩:=List.mem_map.1 ao
   exact h p y aE
theorem RY (p:al×a6):∀y∈(fq p).cells,gC y:=fun y aE=>by
 have J:=BV p.2
 rw [iY] at J
 rcases List.mem_cons.1 (show y∈aa.str p.1::(dd p.2).cells from aE) with rfl|aE
 · exact .str _
 · cases J with
   |agg _ ak=>exact ak y aE
theorem HS (p:al×ar):∀y∈(dO p).cells,gC y:=fun y aE=>by
 have J:=RX p.2
 rw [er] at J
 rcases List.mem_cons.1 (show y∈aa.str p.1::(cE p.2).cells from aE) with rfl|aE
 · exact .str _
 · cases J with
   |agg _ ak=>exact ak y aE
theorem RZ (x:e7):∀y∈(fh x).cells,gC y:=fun y aE=>by
 replace aE:y∈[aa.str x.kind, .str x.name, .slice false (x.parts.map dO)]:=aE
 simp only [List.mem_cons,List.not_mem_nil,or_false] at aE
 rcases aE with rfl|rfl|rfl
 · exact .str _
 · exact .str _
 · exact vn (f:=dO) (fun _=>List.cons_ne_nil _ _) HS _
theorem R0 (x:df):∀y∈(ew x).cells,gC y:=fun y aE=>by
 replace aE:y∈[aa.str x.name, .slice false (x.ins.map fq), .slice false (x.res.map fh), .slice false (x.outs.map dO)]:=aE
 simp only [List.mem_cons,List.not_mem_nil,or_false] at aE
 rcases aE with rfl|rfl|rfl|rfl
 · exact .str _
 · exact vn (f:=fq) (fun _=>List.cons_ne_nil _ _) RY _
 · exact vn (f:=fh) (fun _=>List.cons_ne_nil _ _) RZ _
 · exact vn (f:=dO) (fun _=>List.cons_ne_nil _ _) HS _
end Go.Proofs
end
