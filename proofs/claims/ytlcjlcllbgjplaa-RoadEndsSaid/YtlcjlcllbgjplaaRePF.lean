/- What is returned of a road, by its truths: plain. -/
import Derived.Test.YtlcjlcllbgjplaaRePE
import Derived.Test.YtlcjlcllbgjplaaRePB
/- slices.SortStableFunc, gone through: one number merged into a sorted list. -/
namespace Go.Proofs.Ytlcjlcllbgjplaa
open Go
namespace Srt2
open Clm (ltS sizeN)
theorem swap_up (Q T:List Nat)(u v:Nat):((Q++u::v::T).set Q.length v).set (Q.length+1) u=Q++v::u::T:=by
  rw[List.set_append_right _ _ (by omega),Nat.sub_self,List.set_cons_zero,List.set_append_right _ _ (by omega),show Q.length+1 - Q.length=1 by omega]
  rfl
theorem app_one (P X T:List Nat)(y x:Nat):P++((X++[y])++x::T)=(P++X)++y::x::T:=by simp
theorem app_two (P X T:List Nat)(y x:Nat):P++(X++x::(y::T))=(P++X)++x::y::T:=by simp
theorem sorted_get {B:List Nat}(h:Sorted B){i j:Nat}(hi:i<B.length)(hj:j<B.length)(hij:i≤j):B[i]=B[j]∨LTs B[i] B[j]:=by
  by_cases e:i=j
  · subst e;exact .inl rfl
  · exact .inr ((List.pairwise_iff_getElem.1 h) i j hi hj (by omega))
theorem lts_or {x y z:Nat}(h:x=y∨LTs x y)(g:LTs y z):LTs x z:=by
  rcases h with rfl|h
  · exact g
  · exact h.trans g
theorem or_lts {x y z:Nat}(h:LTs x y)(g:y=z∨LTs y z):LTs x z:=by
  rcases g with rfl|g
  · exact h
  · exact h.trans g
end Srt2
namespace Ev
namespace K
attribute [local simp] ev1 wantG spineK spine float xnew xval xeff zaa zat zbb zax zaw addFl cellsOf pickC alive slLen slFt binI maxA maxK minA minK aeqK aeqS AV.cells spA zau fillA setAt bitsI nat_nn zbd AV.plain apart
set_option maxRecDepth 100000
set_option maxHeartbeats 4000000
theorem zge {i j:Nat}(h:i+j≤400000):IntKind.i64.wrap ((i:Int)+j)=((i+j:Nat):Int)∧IntKind.u64.wrap ((i+j:Nat):Int)=((i+j:Nat):Int)∧((i+j:Nat):Int).fdiv (2 ^ min 1 IntKind.u64.bits)=((i+j) / 2:Nat)∧IntKind.u64.wrap (((i+j) / 2:Nat):Int)=((i+j) / 2:Nat)∧IntKind.i64.wrap (((i+j) / 2:Nat):Int)=((i+j) / 2:Nat):=by
  refine ⟨?_,zet (by omega) (by omega),?_,zet (by omega) (by omega),zas (by omega) (by omega)⟩
  · rw[show ((i+j:Nat):Int)=(i:Int)+j by omega];exact zas (by omega) (by omega)
  · rw[show min 1 IntKind.u64.bits=1 from rfl,Int.fdiv_eq_ediv_of_nonneg _ (by decide)];omega
def SymP (H:List AB)(q:Nat)(P A B S:List Nat)(v:AV)(hp:List AB)(tc:List Nat):Prop:=v=.tup []∧∃ L,InB H q (P++(A++(B++S))) (P++(L++S)) hp tc∧Srt2.Sorted L∧L.Perm (A++B)
def sy0 (q N a cf i j:Nat)(G:List AB)(tc:List Nat):St:={ tm:=tmA 220 [(11,.int .i64 j),(10,.int .i64 i),(4,.fn (.func cf) [] []),(1,.int .i64 a),(0,.sl q 0 N 1)],df:=[],hp:=G,tc:=tc }
def sy2 (q N i k:Nat)(G:List AB)(tc:List Nat):St:={ tm:=tmA 220 [(13,.int .i64 k),(10,.int .i64 i),(0,.sl q 0 N 1)],df:=[],hp:=G,tc:=tc }
theorem zxq (C:Cfg)(hC:C.calm=true)(call:CallF)(cf:Nat)(hK:CmpC call cf)(H:List AB)(q N a m b:Nat)(P B S:List Nat)(x:Nat)(hq:HB H q (.cells (us (P++([x]++(B++S))))))(hN0:(P++([x]++(B++S))).length=N)(hN:N≤100000)(ha:P.length=a)(hm:a+1=m)(hb:m+B.length=b)(hB:Srt2.Sorted B)(hx:∀ y∈B,x<y)(h10:x<1024∧∀ y∈B,y<1024):
    Does (ev C call H.length none af104.body { tm:=tmA af104.ntmps (zipI 0 [.sl q 0 N 1,.int .i64 a,.int .i64 m,.int .i64 b,.fn (.func cf) [] []] []),df:=[],hp:=H,tc:=[] })
      (Ends C H.length af104.res (SymP H q P [x] B S)):=by
  have hlen:a+1+B.length+S.length=N:=by rw[← hN0,← ha];simp only[List.length_append,List.length_cons,List.length_nil];omega
  have w1:IntKind.i64.wrap ((m:Int) - a)=1:=by rw[show (m:Int) - a=1 by omega];rfl
  have HX:=hideP (And.intro hq (And.intro hN0 (And.intro ha (And.intro hm (And.intro hb (And.intro hB (And.intro hx (And.intro h10 hlen))))))))
  clear hq hN0 ha hm hb hB hx h10 hlen
  unfold af104 Zq Zm Zo Zd Ze Zc Zt Zn
  simp only[zipI] at *
  (repeat (first|((with_reducible apply zad);(focus ((with_reducible apply zap);(focus rfl);(focus rfl);(focus ((conv=>lhs;simp[*,List.getElem?_append_right,List.set_append_right,List.getElem?_cons_zero,List.getElem?_append_left,List.set_append_left,-getElem?_pos,Nat.testBit_eq_decide_div_mod_eq])<;>exact rfl));(focus rfl);(focus rfl)));simp only[addFl])|(with_reducible apply zad;(focus ((conv=>lhs;simp[*,List.getElem?_append_right,List.set_append_right,List.getElem?_cons_zero,List.getElem?_append_left,List.set_append_left,-getElem?_pos,Nat.testBit_eq_decide_div_mod_eq])<;>exact rfl));simp only[addFl])|((with_reducible first|apply zai|apply zak|apply zah|apply zaf|apply zac|apply zaj|apply zag|apply zal|(apply zae;· simp[*,zaa])|(apply zab;· simp[*,zaa]));try simp only[Then,Ops])|simp only[Nat.reduceEqDiff,reduceIte,OutB,Then]))
  with_reducible refine zcd hC B.length (by have:=HX.out.2.2.2.2.2.2.2.2;unfold fuelL;omega) (fun k st=>∃ i j,k=j - i∧m≤i∧i≤j∧j≤b∧(∀ t (h:t<B.length),m+t<i→Srt2.LTs B[t] x)∧(∀ t (h:t<B.length),j≤m+t→Srt2.LTs x B[t])∧st=sy0 q N a cf i j H []) ?_ ?_
  · obtain ⟨hq,hN0,ha,hm,hb,hB,hx,h10,hlen⟩:=HX.out
    refine ⟨m,b,by omega,Nat.le_refl _,by omega,Nat.le_refl _,fun t h h'=>by omega,fun t h h'=>by omega,?_⟩
    unfold sy0
    (refine st_is ?_ ?_ ?_ ?_;(focus (simp[zao,zar]));(focus rfl);(focus (first|rfl|(simp;done)|(simp[*];done)|(simp;rfl)|(simp[*];omega)|(simp;omega)));(focus (first|rfl|simp)))
  · rintro k st ⟨i,j,hk,h1,h2,h3,h4,h5,rfl⟩
    obtain ⟨hq,hN0,ha,hm,hb,hB,hx,h10,hlen⟩:=HX.out
    by_cases hij:i<j
    · obtain ⟨f1,f2,f3,f4,f5⟩:=zge (i:=i) (j:=j) (by omega)
      obtain ⟨h,hh⟩:∃ h,(i+j) / 2=h:=⟨_,rfl⟩
      rw[hh] at f3 f4 f5
      have hlo:i≤h:=by omega
      have hhi:h<j:=by omega
      have ht:h - m<B.length:=by omega
      have hgz:(P++([x]++(B++S))).getD h 0=B[h - m]:=by
        rw[List.getD_eq_getElem?_getD,List.getElem?_append_right (by omega),List.getElem?_append_right (by simp;omega),List.getElem?_append_left (by simp;omega)]
        simp only[List.length_cons,List.length_nil]
        rw[show h - P.length - (0+1)=h - m by omega,List.getElem?_eq_getElem ht];rfl
      have hgx:(P++([x]++(B++S))).getD a 0=x:=by rw[← ha];exact Srt2.getD_at P (B++S) x
      have r1:=us_get (l:=P++([x]++(B++S))) (i:=h) (by omega)
      have r2:=us_get (l:=P++([x]++(B++S))) (i:=a) (by omega)
      rw[hgz] at r1
      rw[hgx] at r2
      have hz:=hx _ (List.getElem_mem ht)
      have hz1:=h10.2 _ (List.getElem_mem ht)
      have hlt:=Srt2.lts_right hz
      have hge:=Srt2.lts_left hz
      have hup:Srt2.LTs B[h - m] x→∀ t (h':t<B.length),m+t<h+1→Srt2.LTs B[t] x:=fun hl t h' h6=>Srt2.lts_or (Srt2.sorted_get hB h' ht (by omega)) hl
      have hdn:Srt2.LTs x B[h - m]→∀ t (h':t<B.length),h≤m+t→Srt2.LTs x B[t]:=fun hl t h' h6=>Srt2.or_lts hl (Srt2.sorted_get hB ht h' (by omega))
      generalize B[h - m]=z at *
      have hc:=fun H=>hK H z x hz1 h10.1
      have hul:(us (P++([x]++(B++S)))).length=N:=by rw[us_len,hN0]
      obtain ⟨A1,A2,A3⟩:=hq
      generalize us (P++([x]++(B++S)))=arr at *
      have r1':=ge_of r1
      have r2':=ge_of r2
      have g1:(h:Int)<N:=by omega
      have g2:(a:Int)<N:=by omega
      have g3:h+1≤N:=by omega
      have g4:a+1≤N:=by omega
      have g5:(i:Int)<j:=by omega
      have g6:IntKind.i64.wrap ((h:Int)+1)=h+1:=zas (by omega) (by omega)
      by_cases hs:Clm.sizeN z<Clm.sizeN x
      · have hfin:∃ q',q'<k∧∃ i' j',q'=j' - i'∧m≤i'∧i'≤j'∧j'≤b∧(∀ t (h:t<B.length),m+t<i'→Srt2.LTs B[t] x)∧(∀ t (h:t<B.length),j'≤m+t→Srt2.LTs x B[t])∧i'=h+1∧j'=j:=
          ⟨j - (h+1),by omega,h+1,j,rfl,by omega,by omega,by omega,hup (hlt.2 hs),h5,rfl,rfl⟩
        have HF:=hideP hfin
        have hd:(Clm.sizeN z:Int) - Clm.sizeN x<0:=by omega
        generalize (Clm.sizeN z:Int) - Clm.sizeN x=d at *
        generalize i+j=s at *
        clear hfin hK hk h1 h2 h3 h4 h5 hup hdn hlt hge hz hz1 hs hgz hgx hlo hhi ht hN0 ha hm hb hB hx h10 hlen hh
        unfold sy0
        (repeat (first|((with_reducible apply zad);(focus ((with_reducible apply zap);(focus rfl);(focus rfl);(focus ((conv=>lhs;simp[*,List.getElem?_append_right,List.set_append_right,List.getElem?_cons_zero,List.getElem?_append_left,List.set_append_left,-getElem?_pos,Nat.testBit_eq_decide_div_mod_eq])<;>exact rfl));(focus rfl);(focus rfl)));simp only[addFl])|(with_reducible apply zad;(focus ((conv=>lhs;simp[*,List.getElem?_append_right,List.set_append_right,List.getElem?_cons_zero,List.getElem?_append_left,List.set_append_left,-getElem?_pos,Nat.testBit_eq_decide_div_mod_eq])<;>exact rfl));simp only[addFl])|((with_reducible first|apply zai|apply zak|apply zah|apply zaf|apply zac|apply zaj|apply zag|apply zal|(apply zae;· simp[*,zaa])|(apply zab;· simp[*,zaa]));try simp only[Then,Ops,OutB])|simp only[Nat.reduceEqDiff,reduceIte,OutB,Then]))
        obtain ⟨q',e1,i',j',e2,e3,e4,e5,e6,e7,rfl,rfl⟩:=HF.out
        refine ⟨q',e1,_,_,e2,e3,e4,e5,e6,e7,?_⟩
        (refine st_is ?_ ?_ ?_ ?_;(focus (simp[zao,zar]));(focus rfl);(focus (first|rfl|(simp;done)|(simp[*];done)|(simp;rfl)|(simp[*];omega)|(simp;omega)));(focus (first|rfl|simp)))
      · have hfin:∃ q',q'<k∧∃ i' j',q'=j' - i'∧m≤i'∧i'≤j'∧j'≤b∧(∀ t (h:t<B.length),m+t<i'→Srt2.LTs B[t] x)∧(∀ t (h:t<B.length),j'≤m+t→Srt2.LTs x B[t])∧i'=i∧j'=h:=
          ⟨h - i,by omega,i,h,rfl,by omega,by omega,by omega,h4,hdn (hge.2 hs),rfl,rfl⟩
        have HF:=hideP hfin
        have hd:¬ ((Clm.sizeN z:Int) - Clm.sizeN x<0):=by omega
        generalize (Clm.sizeN z:Int) - Clm.sizeN x=d at *
        generalize i+j=s at *
        clear hfin hK hk h1 h2 h3 h4 h5 hup hdn hlt hge hz hz1 hs hgz hgx hlo hhi ht hN0 ha hm hb hB hx h10 hlen hh
        unfold sy0
        (repeat (first|((with_reducible apply zad);(focus ((with_reducible apply zap);(focus rfl);(focus rfl);(focus ((conv=>lhs;simp[*,List.getElem?_append_right,List.set_append_right,List.getElem?_cons_zero,List.getElem?_append_left,List.set_append_left,-getElem?_pos,Nat.testBit_eq_decide_div_mod_eq])<;>exact rfl));(focus rfl);(focus rfl)));simp only[addFl])|(with_reducible apply zad;(focus ((conv=>lhs;simp[*,List.getElem?_append_right,List.set_append_right,List.getElem?_cons_zero,List.getElem?_append_left,List.set_append_left,-getElem?_pos,Nat.testBit_eq_decide_div_mod_eq])<;>exact rfl));simp only[addFl])|((with_reducible first|apply zai|apply zak|apply zah|apply zaf|apply zac|apply zaj|apply zag|apply zal|(apply zae;· simp[*,zaa])|(apply zab;· simp[*,zaa]));try simp only[Then,Ops,OutB])|simp only[Nat.reduceEqDiff,reduceIte,OutB,Then]))
        obtain ⟨q',e1,i',j',e2,e3,e4,e5,e6,e7,rfl,rfl⟩:=HF.out
        refine ⟨q',e1,_,_,e2,e3,e4,e5,e6,e7,?_⟩
        (refine st_is ?_ ?_ ?_ ?_;(focus (simp[zao,zar]));(focus rfl);(focus (first|rfl|(simp;done)|(simp[*];done)|(simp;rfl)|(simp[*];omega)|(simp;omega)));(focus (first|rfl|simp)))
    · have hij':i=j:=by omega
      subst hij'
      obtain ⟨n,hn⟩:∃ n,n=i - m:=⟨_,rfl⟩
      obtain ⟨i1,hi1⟩:∃ i1,i1+1=i:=⟨i - 1,by omega⟩
      have w2:IntKind.i64.wrap ((i:Int) - 1)=(i1:Int):=by rw[show (i:Int) - 1=i1 by omega];exact zas (by omega) (by omega)
      have g5:¬ ((i:Int)<i):=by omega
      have HI:=hideP (And.intro h1 (And.intro h3 (And.intro h4 (And.intro h5 (And.intro hn hi1)))))
      clear hK hk h1 h2 h3 h4 h5 hij hq hN0 ha hm hb hB hx h10 hlen hn hi1
      unfold sy0
      (repeat (first|((with_reducible apply zad);(focus ((with_reducible apply zap);(focus rfl);(focus rfl);(focus ((conv=>lhs;simp[*,List.getElem?_append_right,List.set_append_right,List.getElem?_cons_zero,List.getElem?_append_left,List.set_append_left,-getElem?_pos,Nat.testBit_eq_decide_div_mod_eq])<;>exact rfl));(focus rfl);(focus rfl)));simp only[addFl])|(with_reducible apply zad;(focus ((conv=>lhs;simp[*,List.getElem?_append_right,List.set_append_right,List.getElem?_cons_zero,List.getElem?_append_left,List.set_append_left,-getElem?_pos,Nat.testBit_eq_decide_div_mod_eq])<;>exact rfl));simp only[addFl])|((with_reducible first|apply zai|apply zak|apply zah|apply zaf|apply zac|apply zaj|apply zag|apply zal|(apply zae;· simp[*,zaa])|(apply zab;· simp[*,zaa]));try simp only[Then,Ops,OutB,reduceIte])|simp only[Nat.reduceEqDiff,reduceIte,OutB,Then]))
      with_reducible refine zaz hC n (by have:=HX.out.2.2.2.2.2.2.2.2;have:=HX.out;have:=HI.out;unfold fuelL;omega) (fun r st=>∃ G tc,InB H q (P++([x]++(B++S))) (P++(B.take r++x::(B.drop r++S))) G tc∧st=sy2 q N i (a+r) G tc) ?_ ?_ ?_
      · obtain ⟨hq,hN0,ha,hm,hb,hB,hx,h10,hlen⟩:=HX.out
        refine ⟨H,[],⟨?_,by simp,fun _=>?_⟩,?_⟩
        · simp only[List.take_zero,List.drop_zero,List.nil_append];exact hq.same.symm
        · simp
        · unfold sy2
          (refine st_is ?_ ?_ ?_ ?_;(focus (simp[zao,zar]));(focus rfl);(focus (first|rfl|(simp;done)|(simp[*];done)|(simp;rfl)|(simp[*];omega)|(simp;omega)));(focus (first|rfl|simp)))
      · rintro r st hr ⟨G,tc,hG,rfl⟩
        obtain ⟨hq,hN0,ha,hm,hb,hB,hx,h10,hlen⟩:=HX.out
        obtain ⟨h1,h3,h4,h5,hn,hi1⟩:=HI.out
        have hrB:r<B.length:=by omega
        have hd:B.drop r=B[r]::B.drop (r+1):=List.drop_eq_getElem_cons hrB
        have ht:B.take (r+1)=B.take r++[B[r]]:=List.take_succ_eq_append_getElem hrB
        rw[hd,List.cons_append (a:=B[r])] at hG
        rw[ht]
        have harr:P++(B.take r++x::(B[r]::(B.drop (r+1)++S)))=(P++B.take r)++x::B[r]::(B.drop (r+1)++S):=Srt2.app_two _ _ _ _ _
        have harr2:P++((B.take r++[B[r]])++x::(B.drop (r+1)++S))=(P++B.take r)++B[r]::x::(B.drop (r+1)++S):=Srt2.app_one _ _ _ _ _
        rw[harr2]
        rw[harr] at hG
        have hHG:=hG.hb hq
        have hQ:(P++B.take r).length=a+r:=by simp only[List.length_append,List.length_take];omega
        have hal:((P++B.take r)++x::B[r]::(B.drop (r+1)++S)).length=N:=by
          rw[← hlen];simp only[List.length_append,List.length_cons,List.length_take,List.length_drop];omega
        generalize B[r]=y at *
        obtain ⟨k,hk⟩:∃ k,a+r=k:=⟨_,rfl⟩
        obtain ⟨k1,hk1⟩:∃ k1,k+1=k1:=⟨_,rfl⟩
        rw[← Nat.add_assoc a r 1,hk,hk1]
        rw[hk] at hQ
        have hkN:k+1<N:=by omega
        have r1:=us_get (l:=(P++B.take r)++x::y::(B.drop (r+1)++S)) (i:=k) (by omega)
        have r2:=us_get (l:=(P++B.take r)++x::y::(B.drop (r+1)++S)) (i:=k1) (by omega)
        have s1:=us_set (l:=(P++B.take r)++x::y::(B.drop (r+1)++S)) (i:=k) (by omega) y
        have s2:=us_set (l:=((P++B.take r)++x::y::(B.drop (r+1)++S)).set k y) (i:=k1) (by rw[List.length_set];omega) x
        have hl1:(us ((P++B.take r)++x::y::(B.drop (r+1)++S))).length=N:=by rw[us_len,hal]
        have hl2:(us (((P++B.take r)++x::y::(B.drop (r+1)++S)).set k y)).length=N:=by rw[us_len,List.length_set,hal]
        have hsw:=Srt2.swap_up (P++B.take r) (B.drop (r+1)++S) x y
        have g1:=Srt2.getD_at (P++B.take r) (y::(B.drop (r+1)++S)) x
        have g2:=Srt2.getD_at1 (P++B.take r) (B.drop (r+1)++S) x y
        rw[hQ,hk1] at hsw g2
        rw[hQ] at g1
        rw[g1] at r1
        rw[g2] at r2
        rw[hsw] at s2
        generalize (P++B.take r)++x::y::(B.drop (r+1)++S)=arr at *
        generalize (P++B.take r)++y::x::(B.drop (r+1)++S)=arr2 at *
        generalize arr.set k y=arr1 at *
        have r1':=ge_of r1
        have r2':=ge_of r2
        have f1:(k:Int)<N:=by omega
        have f2:(k1:Int)<N:=by omega
        have f3:k+1≤N:=by omega
        have f4:k1+1≤N:=by omega
        have f5:(k:Int)<i1:=by omega
        have w3:IntKind.i64.wrap ((k:Int)+1)=(k1:Int):=by rw[show (k1:Int)=(k:Int)+1 by omega];exact zas (by omega) (by omega)
        have hql:=hq.lt
        have hfin : InB H q (P ++ ([x] ++ (B ++ S))) arr2 (G.set q (.cells (us arr2))) (q :: q :: tc) := ⟨by rw [hG.1, List.set_set], fun j hj => by
          rcases List.mem_cons.1 hj with rfl|hj
          · rfl
          · rcases List.mem_cons.1 hj with rfl|hj
            · rfl
            · exact hG.2.1 j hj,fun h=>by cases h⟩
        have HF:=hideP hfin
        obtain ⟨A1,A2,A3⟩:=hHG
        clear hfin hG hq hN0 ha hm hb hB hx h10 hlen h1 h3 h4 h5 hn hi1 hrB hd ht harr harr2 hQ hal hk hk1 hkN hsw g1 g2
        unfold sy2
        (repeat (first|((with_reducible apply zad);(focus ((with_reducible apply zap);(focus rfl);(focus rfl);(focus ((conv=>lhs;simp[*,List.getElem?_append_right,List.set_append_right,List.getElem?_cons_zero,List.getElem?_append_left,List.set_append_left,-getElem?_pos,Nat.testBit_eq_decide_div_mod_eq])<;>exact rfl));(focus rfl);(focus rfl)));simp only[addFl])|(with_reducible apply zad;(focus ((conv=>lhs;simp[*,List.getElem?_append_right,List.set_append_right,List.getElem?_cons_zero,List.getElem?_append_left,List.set_append_left,-getElem?_pos,Nat.testBit_eq_decide_div_mod_eq])<;>exact rfl));simp only[addFl])|((with_reducible first|apply zai|apply zak|apply zah|apply zaf|apply zac|apply zaj|apply zag|apply zal|(apply zae;· simp[*,zaa])|(apply zab;· simp[*,zaa]));try simp only[Then,Ops,OutB])|simp only[Nat.reduceEqDiff,reduceIte,OutB,Then]))
        refine ⟨_,_,HF.out,?_⟩
        (refine st_is ?_ ?_ ?_ ?_;(focus (simp[zao,zar]));(focus rfl);(focus (first|rfl|(simp;done)|(simp[*];done)|(simp;rfl)|(simp[*];omega)|(simp;omega)));(focus (first|rfl|simp)))
      · rintro st ⟨G,tc,hG,rfl⟩
        obtain ⟨hq,hN0,ha,hm,hb,hB,hx,h10,hlen⟩:=HX.out
        obtain ⟨h1,h3,h4,h5,hn,hi1⟩:=HI.out
        have hGl:=hG.length
        have hfin:SymP H q P [x] B S (.tup []) G tc:=by
          refine ⟨rfl,B.take n++x::B.drop n,by simpa using hG,Srt2.put_sorted (by rw[List.take_append_drop];exact hB) (fun y hy=>?_) (fun y hy=>?_),?_⟩
          · obtain ⟨t,ht,rfl⟩:=List.getElem_of_mem hy
            rw[List.length_take] at ht
            rw[List.getElem_take]
            exact h4 t (by omega) (by omega)
          · obtain ⟨t,ht,rfl⟩:=List.getElem_of_mem hy
            rw[List.length_drop] at ht
            rw[List.getElem_drop]
            exact h5 (n+t) (by omega) (by omega)
          · have:=(List.perm_middle (l₁:=B.take n) (a:=x) (l₂:=B.drop n))
            rwa [List.take_append_drop] at this
        have HF:=hideP hfin
        have hgl:H.length≤G.length:=by omega
        have f5:¬ (((a+n:Nat):Int)<i1):=by omega
        have f6:¬ (a+n<i1):=by omega
        generalize a+n=k at *
        clear hfin hG hq hN0 ha hm hb hB hx h10 hlen h1 h3 h4 h5 hn hi1
        unfold sy2
        (repeat (first|((with_reducible apply zad);(focus ((with_reducible apply zap);(focus rfl);(focus rfl);(focus ((conv=>lhs;simp[*,List.getElem?_append_right,List.set_append_right,List.getElem?_cons_zero,List.getElem?_append_left,List.set_append_left,-getElem?_pos,Nat.testBit_eq_decide_div_mod_eq])<;>exact rfl));(focus rfl);(focus rfl)));simp only[addFl])|(with_reducible apply zad;(focus ((conv=>lhs;simp[*,List.getElem?_append_right,List.set_append_right,List.getElem?_cons_zero,List.getElem?_append_left,List.set_append_left,-getElem?_pos,Nat.testBit_eq_decide_div_mod_eq])<;>exact rfl));simp only[addFl])|((with_reducible first|apply zai|apply zak|apply zah|apply zaf|apply zac|apply zaj|apply zag|apply zal|(apply zae;· simp[*,zaa])|(apply zab;· simp[*,zaa]));try simp only[Then,Ops,OutB,reduceIte])|simp only[Nat.reduceEqDiff,reduceIte,OutB,Then]))
        exact zan (v:=.tup []) (.inl rfl) rfl hgl (by simp only[resL];simp[*,resV]) HF.out
end K
end Ev
end Go.Proofs.Ytlcjlcllbgjplaa

/- slices.SortStableFunc, gone through: one number merged into a sorted list ahead of it. -/
namespace Go.Proofs.Ytlcjlcllbgjplaa
open Go
namespace Ev
namespace K
attribute [local simp] ev1 wantG spineK spine float xnew xval xeff zaa zat zbb zax zaw addFl cellsOf pickC alive slLen slFt binI maxA maxK minA minK aeqK aeqS AV.cells spA zau fillA setAt bitsI nat_nn zbd AV.plain apart
set_option maxRecDepth 100000
set_option maxHeartbeats 4000000
def sy4 (q N m cf i j:Nat)(G:List AB)(tc:List Nat):St:={ tm:=tmA 220 [(15,.int .i64 j),(14,.int .i64 i),(4,.fn (.func cf) [] []),(2,.int .i64 m),(0,.sl q 0 N 1)],df:=[],hp:=G,tc:=tc }
def sy6 (q N i k:Nat)(G:List AB)(tc:List Nat):St:={ tm:=tmA 220 [(17,.int .i64 k),(14,.int .i64 i),(0,.sl q 0 N 1)],df:=[],hp:=G,tc:=tc }
theorem zvi (C:Cfg)(hC:C.calm=true)(call:CallF)(cf:Nat)(hK:CmpC call cf)(H:List AB)(q N a m b:Nat)(P A S:List Nat)(y:Nat)(hq:HB H q (.cells (us (P++(A++([y]++S))))))(hN0:(P++(A++([y]++S))).length=N)(hN:N≤100000)(ha:P.length=a)(hm:a+A.length=m)(hb:m+1=b)(hA1:A.length≠1)(hA:Srt2.Sorted A)(hx:∀ z∈A,z<y)(h10:y<1024∧∀ z∈A,z<1024):
    Does (ev C call H.length none af104.body { tm:=tmA af104.ntmps (zipI 0 [.sl q 0 N 1,.int .i64 a,.int .i64 m,.int .i64 b,.fn (.func cf) [] []] []),df:=[],hp:=H,tc:=[] })
      (Ends C H.length af104.res (SymP H q P A [y] S)):=by
  have hlen:a+A.length+1+S.length=N:=by rw[← hN0,← ha];simp only[List.length_append,List.length_cons,List.length_nil];omega
  obtain ⟨n,hn⟩:∃ n,A.length=n:=⟨_,rfl⟩
  have w0:IntKind.i64.wrap ((m:Int) - a)=n:=by rw[show (m:Int) - a=n by omega];exact zas (by omega) (by omega)
  have w0':((n:Int)==1)=false:=beq_false_of_ne (by omega)
  have w1:IntKind.i64.wrap ((b:Int) - m)=1:=by rw[show (b:Int) - m=1 by omega];rfl
  have HX:=hideP (And.intro hq (And.intro hN0 (And.intro ha (And.intro hm (And.intro hb (And.intro hA (And.intro hx (And.intro h10 (And.intro hlen hn)))))))))
  clear hq hN0 ha hm hb hA hx h10 hlen hn hA1
  unfold af104 Zq Zm Zo Zd Ze Zc Zt Zn
  simp only[zipI] at *
  (repeat (first|((with_reducible apply zad);(focus ((with_reducible apply zap);(focus rfl);(focus rfl);(focus ((conv=>lhs;simp[*,List.getElem?_append_right,List.set_append_right,List.getElem?_cons_zero,List.getElem?_append_left,List.set_append_left,-getElem?_pos,Nat.testBit_eq_decide_div_mod_eq])<;>exact rfl));(focus rfl);(focus rfl)));simp only[addFl])|(with_reducible apply zad;(focus ((conv=>lhs;simp[*,List.getElem?_append_right,List.set_append_right,List.getElem?_cons_zero,List.getElem?_append_left,List.set_append_left,-getElem?_pos,Nat.testBit_eq_decide_div_mod_eq])<;>exact rfl));simp only[addFl])|((with_reducible first|apply zai|apply zak|apply zah|apply zaf|apply zac|apply zaj|apply zag|apply zal|(apply zae;· simp[*,zaa])|(apply zab;· simp[*,zaa]));try simp only[Then,Ops])|simp only[Nat.reduceEqDiff,reduceIte,OutB,Then]))
  with_reducible refine zcd hC n (by have:=HX.out.2.2.2.2.2.2.2.2.1;have:=HX.out.2.2.2.2.2.2.2.2.2;unfold fuelL;omega) (fun k st=>∃ i j,k=j - i∧a≤i∧i≤j∧j≤m∧(∀ t (h:t<A.length),a+t<i→Srt2.LTs A[t] y)∧(∀ t (h:t<A.length),j≤a+t→Srt2.LTs y A[t])∧st=sy4 q N m cf i j H []) ?_ ?_
  · obtain ⟨hq,hN0,ha,hm,hb,hA,hx,h10,hlen,hn⟩:=HX.out
    refine ⟨a,m,by omega,Nat.le_refl _,by omega,Nat.le_refl _,fun t h h'=>by omega,fun t h h'=>by omega,?_⟩
    unfold sy4
    (refine st_is ?_ ?_ ?_ ?_;(focus (simp[zao,zar]));(focus rfl);(focus (first|rfl|(simp;done)|(simp[*];done)|(simp;rfl)|(simp[*];omega)|(simp;omega)));(focus (first|rfl|simp)))
  · rintro k st ⟨i,j,hk,h1,h2,h3,h4,h5,rfl⟩
    obtain ⟨hq,hN0,ha,hm,hb,hA,hx,h10,hlen,hn⟩:=HX.out
    by_cases hij:i<j
    · obtain ⟨f1,f2,f3,f4,f5⟩:=zge (i:=i) (j:=j) (by omega)
      obtain ⟨h,hh⟩:∃ h,(i+j) / 2=h:=⟨_,rfl⟩
      rw[hh] at f3 f4 f5
      have hlo:i≤h:=by omega
      have hhi:h<j:=by omega
      have ht:h - a<A.length:=by omega
      have hgz:(P++(A++([y]++S))).getD h 0=A[h - a]:=by
        rw[List.getD_eq_getElem?_getD,List.getElem?_append_right (by omega),List.getElem?_append_left (by omega),ha,List.getElem?_eq_getElem ht];rfl
      have hgx:(P++(A++([y]++S))).getD m 0=y:=by
        have:=Srt2.getD_at (P++A) S y
        rw[List.length_append,ha,hm,List.append_assoc] at this
        exact this
      have r1:=us_get (l:=P++(A++([y]++S))) (i:=h) (by omega)
      have r2:=us_get (l:=P++(A++([y]++S))) (i:=m) (by omega)
      rw[hgz] at r1
      rw[hgx] at r2
      have hz:=hx _ (List.getElem_mem ht)
      have hz1:=h10.2 _ (List.getElem_mem ht)
      have hlt:=Srt2.lts_right hz
      have hge:=Srt2.lts_left hz
      have hup:Srt2.LTs A[h - a] y→∀ t (h':t<A.length),a+t<h+1→Srt2.LTs A[t] y:=fun hl t h' h6=>Srt2.lts_or (Srt2.sorted_get hA h' ht (by omega)) hl
      have hdn:Srt2.LTs y A[h - a]→∀ t (h':t<A.length),h≤a+t→Srt2.LTs y A[t]:=fun hl t h' h6=>Srt2.or_lts hl (Srt2.sorted_get hA ht h' (by omega))
      generalize A[h - a]=z at *
      have hc:=fun H=>hK H y z h10.1 hz1
      have hul:(us (P++(A++([y]++S)))).length=N:=by rw[us_len,hN0]
      obtain ⟨A1,A2,A3⟩:=hq
      generalize us (P++(A++([y]++S)))=arr at *
      have r1':=ge_of r1
      have r2':=ge_of r2
      have g1:(h:Int)<N:=by omega
      have g2:(m:Int)<N:=by omega
      have g3:h+1≤N:=by omega
      have g4:m+1≤N:=by omega
      have g5:(i:Int)<j:=by omega
      have g6:IntKind.i64.wrap ((h:Int)+1)=h+1:=zas (by omega) (by omega)
      by_cases hs:Clm.sizeN y<Clm.sizeN z
      · have hfin:∃ q',q'<k∧∃ i' j',q'=j' - i'∧a≤i'∧i'≤j'∧j'≤m∧(∀ t (h:t<A.length),a+t<i'→Srt2.LTs A[t] y)∧(∀ t (h:t<A.length),j'≤a+t→Srt2.LTs y A[t])∧i'=i∧j'=h:=
          ⟨h - i,by omega,i,h,rfl,by omega,by omega,by omega,h4,hdn (hlt.2 hs),rfl,rfl⟩
        have HF:=hideP hfin
        have hd:(Clm.sizeN y:Int) - Clm.sizeN z<0:=by omega
        generalize (Clm.sizeN y:Int) - Clm.sizeN z=d at *
        generalize i+j=s at *
        clear hfin hK hk h1 h2 h3 h4 h5 hup hdn hlt hge hz hz1 hs hgz hgx hlo hhi ht hN0 ha hm hb hA hx h10 hlen hh hn
        unfold sy4
        (repeat (first|((with_reducible apply zad);(focus ((with_reducible apply zap);(focus rfl);(focus rfl);(focus ((conv=>lhs;simp[*,List.getElem?_append_right,List.set_append_right,List.getElem?_cons_zero,List.getElem?_append_left,List.set_append_left,-getElem?_pos,Nat.testBit_eq_decide_div_mod_eq])<;>exact rfl));(focus rfl);(focus rfl)));simp only[addFl])|(with_reducible apply zad;(focus ((conv=>lhs;simp[*,List.getElem?_append_right,List.set_append_right,List.getElem?_cons_zero,List.getElem?_append_left,List.set_append_left,-getElem?_pos,Nat.testBit_eq_decide_div_mod_eq])<;>exact rfl));simp only[addFl])|((with_reducible first|apply zai|apply zak|apply zah|apply zaf|apply zac|apply zaj|apply zag|apply zal|(apply zae;· simp[*,zaa])|(apply zab;· simp[*,zaa]));try simp only[Then,Ops,OutB])|simp only[Nat.reduceEqDiff,reduceIte,OutB,Then]))
        obtain ⟨q',e1,i',j',e2,e3,e4,e5,e6,e7,rfl,rfl⟩:=HF.out
        refine ⟨q',e1,_,_,e2,e3,e4,e5,e6,e7,?_⟩
        (refine st_is ?_ ?_ ?_ ?_;(focus (simp[zao,zar]));(focus rfl);(focus (first|rfl|(simp;done)|(simp[*];done)|(simp;rfl)|(simp[*];omega)|(simp;omega)));(focus (first|rfl|simp)))
      · have hfin:∃ q',q'<k∧∃ i' j',q'=j' - i'∧a≤i'∧i'≤j'∧j'≤m∧(∀ t (h:t<A.length),a+t<i'→Srt2.LTs A[t] y)∧(∀ t (h:t<A.length),j'≤a+t→Srt2.LTs y A[t])∧i'=h+1∧j'=j:=
          ⟨j - (h+1),by omega,h+1,j,rfl,by omega,by omega,by omega,hup (hge.2 hs),h5,rfl,rfl⟩
        have HF:=hideP hfin
        have hd:¬ ((Clm.sizeN y:Int) - Clm.sizeN z<0):=by omega
        generalize (Clm.sizeN y:Int) - Clm.sizeN z=d at *
        generalize i+j=s at *
        clear hfin hK hk h1 h2 h3 h4 h5 hup hdn hlt hge hz hz1 hs hgz hgx hlo hhi ht hN0 ha hm hb hA hx h10 hlen hh hn
        unfold sy4
        (repeat (first|((with_reducible apply zad);(focus ((with_reducible apply zap);(focus rfl);(focus rfl);(focus ((conv=>lhs;simp[*,List.getElem?_append_right,List.set_append_right,List.getElem?_cons_zero,List.getElem?_append_left,List.set_append_left,-getElem?_pos,Nat.testBit_eq_decide_div_mod_eq])<;>exact rfl));(focus rfl);(focus rfl)));simp only[addFl])|(with_reducible apply zad;(focus ((conv=>lhs;simp[*,List.getElem?_append_right,List.set_append_right,List.getElem?_cons_zero,List.getElem?_append_left,List.set_append_left,-getElem?_pos,Nat.testBit_eq_decide_div_mod_eq])<;>exact rfl));simp only[addFl])|((with_reducible first|apply zai|apply zak|apply zah|apply zaf|apply zac|apply zaj|apply zag|apply zal|(apply zae;· simp[*,zaa])|(apply zab;· simp[*,zaa]));try simp only[Then,Ops,OutB])|simp only[Nat.reduceEqDiff,reduceIte,OutB,Then]))
        obtain ⟨q',e1,i',j',e2,e3,e4,e5,e6,e7,rfl,rfl⟩:=HF.out
        refine ⟨q',e1,_,_,e2,e3,e4,e5,e6,e7,?_⟩
        (refine st_is ?_ ?_ ?_ ?_;(focus (simp[zao,zar]));(focus rfl);(focus (first|rfl|(simp;done)|(simp[*];done)|(simp;rfl)|(simp[*];omega)|(simp;omega)));(focus (first|rfl|simp)))
    · have hij':i=j:=by omega
      subst hij'
      have g5:¬ ((i:Int)<i):=by omega
      have HI:=hideP (And.intro h1 (And.intro h3 (And.intro h4 h5)))
      clear hK hk h1 h2 h3 h4 h5 hij hq hN0 ha hm hb hA hx h10 hlen hn
      unfold sy4
      (repeat (first|((with_reducible apply zad);(focus ((with_reducible apply zap);(focus rfl);(focus rfl);(focus ((conv=>lhs;simp[*,List.getElem?_append_right,List.set_append_right,List.getElem?_cons_zero,List.getElem?_append_left,List.set_append_left,-getElem?_pos,Nat.testBit_eq_decide_div_mod_eq])<;>exact rfl));(focus rfl);(focus rfl)));simp only[addFl])|(with_reducible apply zad;(focus ((conv=>lhs;simp[*,List.getElem?_append_right,List.set_append_right,List.getElem?_cons_zero,List.getElem?_append_left,List.set_append_left,-getElem?_pos,Nat.testBit_eq_decide_div_mod_eq])<;>exact rfl));simp only[addFl])|((with_reducible first|apply zai|apply zak|apply zah|apply zaf|apply zac|apply zaj|apply zag|apply zal|(apply zae;· simp[*,zaa])|(apply zab;· simp[*,zaa]));try simp only[Then,Ops,OutB,reduceIte])|simp only[Nat.reduceEqDiff,reduceIte,OutB,Then]))
      with_reducible refine zcd hC n (by have:=HX.out.2.2.2.2.2.2.2.2.1;have:=HX.out.2.2.2.2.2.2.2.2.2;unfold fuelL;omega) (fun u st=>∃ G tc,i≤a+u∧u≤n∧InB H q (P++(A++([y]++S))) (P++(A.take u++y::(A.drop u++S))) G tc∧st=sy6 q N i (a+u) G tc) ?_ ?_
      · obtain ⟨hq,hN0,ha,hm,hb,hA,hx,h10,hlen,hn⟩:=HX.out
        obtain ⟨h1,h3,h4,h5⟩:=HI.out
        have e:P++(A.take n++y::(A.drop n++S))=P++(A++([y]++S)):=by
          rw[List.take_of_length_le (by omega),List.drop_of_length_le (by omega)];rfl
        refine ⟨H,[],by omega,Nat.le_refl _,⟨?_,by simp,fun _=>e⟩,?_⟩
        · rw[e];exact hq.same.symm
        · rw[show a+n=m by omega]
          unfold sy6
          (refine st_is ?_ ?_ ?_ ?_;(focus (simp[zao,zar]));(focus rfl);(focus (first|rfl|(simp;done)|(simp[*];done)|(simp;rfl)|(simp[*];omega)|(simp;omega)));(focus (first|rfl|simp)))
      · rintro u st ⟨G,tc,hiu,hun,hG,rfl⟩
        obtain ⟨hq,hN0,ha,hm,hb,hA,hx,h10,hlen,hn⟩:=HX.out
        obtain ⟨h1,h3,h4,h5⟩:=HI.out
        have hql:=hq.lt
        have hGl:=hG.length
        by_cases hgt:i<a+u
        · obtain ⟨r,rfl⟩:∃ r,u=r+1:=⟨u - 1,by omega⟩
          have hrA:r<A.length:=by omega
          have hd:A.drop r=A[r]::A.drop (r+1):=List.drop_eq_getElem_cons hrA
          have ht:A.take (r+1)=A.take r++[A[r]]:=List.take_succ_eq_append_getElem hrA
          rw[ht] at hG
          have harr:P++((A.take r++[A[r]])++y::(A.drop (r+1)++S))=(P++A.take r)++A[r]::y::(A.drop (r+1)++S):=Srt2.app_one _ _ _ _ _
          have harr2:P++(A.take r++y::(A.drop r++S))=(P++A.take r)++y::A[r]::(A.drop (r+1)++S):=by rw[hd];exact Srt2.app_two _ _ _ _ _
          rw[harr] at hG
          have hHG:=hG.hb hq
          have hQ:(P++A.take r).length=a+r:=by simp only[List.length_append,List.length_take];omega
          have hal:((P++A.take r)++A[r]::y::(A.drop (r+1)++S)).length=N:=by
            rw[← hlen];simp only[List.length_append,List.length_cons,List.length_take,List.length_drop];omega
          have hfin0:∀ G2 tc2,InB H q (P++(A++([y]++S))) ((P++A.take r)++y::A[r]::(A.drop (r+1)++S)) G2 tc2→∃ q',q'<r+1∧∃ G tc,i≤a+q'∧q'≤n∧InB H q (P++(A++([y]++S))) (P++(A.take q'++y::(A.drop q'++S))) G tc∧a+q'=a+r∧G=G2∧tc=tc2:=fun G2 tc2 h=>
            ⟨r,by omega,G2,tc2,by omega,by omega,by rw[harr2];exact h,rfl,rfl,rfl⟩
          generalize A[r]=z at *
          obtain ⟨k,hk⟩:∃ k,a+r=k:=⟨_,rfl⟩
          obtain ⟨k1,hk1⟩:∃ k1,k+1=k1:=⟨_,rfl⟩
          rw[← Nat.add_assoc a r 1,hk,hk1]
          rw[hk] at hQ hfin0
          have hkN:k+1<N:=by omega
          have r1:=us_get (l:=(P++A.take r)++z::y::(A.drop (r+1)++S)) (i:=k) (by omega)
          have r2:=us_get (l:=(P++A.take r)++z::y::(A.drop (r+1)++S)) (i:=k1) (by omega)
          have s1:=us_set (l:=(P++A.take r)++z::y::(A.drop (r+1)++S)) (i:=k1) (by omega) z
          have s2:=us_set (l:=((P++A.take r)++z::y::(A.drop (r+1)++S)).set k1 z) (i:=k) (by rw[List.length_set];omega) y
          have hl1:(us ((P++A.take r)++z::y::(A.drop (r+1)++S))).length=N:=by rw[us_len,hal]
          have hl2:(us (((P++A.take r)++z::y::(A.drop (r+1)++S)).set k1 z)).length=N:=by rw[us_len,List.length_set,hal]
          have hsw:=Srt2.swap_at (P++A.take r) (A.drop (r+1)++S) z y
          have g1:=Srt2.getD_at (P++A.take r) (y::(A.drop (r+1)++S)) z
          have g2:=Srt2.getD_at1 (P++A.take r) (A.drop (r+1)++S) z y
          rw[hQ,hk1] at hsw g2
          rw[hQ] at g1
          rw[g1] at r1
          rw[g2] at r2
          rw[hsw] at s2
          generalize (P++A.take r)++z::y::(A.drop (r+1)++S)=arr at *
          generalize (P++A.take r)++y::z::(A.drop (r+1)++S)=arr2 at *
          generalize arr.set k1 z=arr1 at *
          have r1':=ge_of r1
          have r2':=ge_of r2
          have f1:(k:Int)<N:=by omega
          have f2:(k1:Int)<N:=by omega
          have f3:k+1≤N:=by omega
          have f4:k1+1≤N:=by omega
          have f5:(i:Int)<k1:=by omega
          have f6:i<k1:=by omega
          have w3:IntKind.i64.wrap ((k1:Int) - 1)=(k:Int):=by rw[show (k:Int)=(k1:Int) - 1 by omega];exact zas (by omega) (by omega)
          have hfin := hfin0 (G.set q (.cells (us arr2))) (q :: q :: tc) ⟨by rw [hG.1, List.set_set], fun j hj => by
            rcases List.mem_cons.1 hj with rfl|hj
            · rfl
            · rcases List.mem_cons.1 hj with rfl|hj
              · rfl
              · exact hG.2.1 j hj,fun h=>by cases h⟩
          have HF:=hideP hfin
          obtain ⟨A1,A2,A3⟩:=hHG
          clear hfin hfin0 hG hq hN0 ha hm hb hA hx h10 hlen h1 h3 h4 h5 hn hrA hd ht harr harr2 hQ hal hk hk1 hkN hsw g1 g2 hiu hun hgt hGl
          unfold sy6
          (repeat (first|((with_reducible apply zad);(focus ((with_reducible apply zap);(focus rfl);(focus rfl);(focus ((conv=>lhs;simp[*,List.getElem?_append_right,List.set_append_right,List.getElem?_cons_zero,List.getElem?_append_left,List.set_append_left,-getElem?_pos,Nat.testBit_eq_decide_div_mod_eq])<;>exact rfl));(focus rfl);(focus rfl)));simp only[addFl])|(with_reducible apply zad;(focus ((conv=>lhs;simp[*,List.getElem?_append_right,List.set_append_right,List.getElem?_cons_zero,List.getElem?_append_left,List.set_append_left,-getElem?_pos,Nat.testBit_eq_decide_div_mod_eq])<;>exact rfl));simp only[addFl])|((with_reducible first|apply zai|apply zak|apply zah|apply zaf|apply zac|apply zaj|apply zag|apply zal|(apply zae;· simp[*,zaa])|(apply zab;· simp[*,zaa]));try simp only[Then,Ops,OutB])|simp only[Nat.reduceEqDiff,reduceIte,OutB,Then]))
          obtain ⟨q',e1,G2,tc2,e2,e3,e4,e5,rfl,rfl⟩:=HF.out
          refine ⟨q',e1,_,_,e2,e3,e4,?_⟩
          rw[e5]
          (refine st_is ?_ ?_ ?_ ?_;(focus (simp[zao,zar]));(focus rfl);(focus (first|rfl|(simp;done)|(simp[*];done)|(simp;rfl)|(simp[*];omega)|(simp;omega)));(focus (first|rfl|simp)))
        · have hui:a+u=i:=by omega
          have hfin:SymP H q P A [y] S (.tup []) G tc:=by
            refine ⟨rfl,A.take u++y::A.drop u,by simpa using hG,Srt2.put_sorted (by rw[List.take_append_drop];exact hA) (fun z hz=>?_) (fun z hz=>?_),?_⟩
            · obtain ⟨t,ht,rfl⟩:=List.getElem_of_mem hz
              rw[List.length_take] at ht
              rw[List.getElem_take]
              exact h4 t (by omega) (by omega)
            · obtain ⟨t,ht,rfl⟩:=List.getElem_of_mem hz
              rw[List.length_drop] at ht
              rw[List.getElem_drop]
              exact h5 (u+t) (by omega) (by omega)
            · have:=(List.perm_middle (l₁:=A.take u) (a:=y) (l₂:=A.drop u))
              rw[List.take_append_drop] at this
              exact this.trans (List.perm_append_singleton y A).symm
          have HF:=hideP hfin
          have hgl:H.length≤G.length:=by omega
          rw[hui]
          have f6:¬ (i<i):=by omega
          clear hfin hG hq hN0 ha hm hb hA hx h10 hlen h1 h3 h4 h5 hn hiu hun hgt hGl hui
          unfold sy6
          (repeat (first|((with_reducible apply zad);(focus ((with_reducible apply zap);(focus rfl);(focus rfl);(focus ((conv=>lhs;simp[*,List.getElem?_append_right,List.set_append_right,List.getElem?_cons_zero,List.getElem?_append_left,List.set_append_left,-getElem?_pos,Nat.testBit_eq_decide_div_mod_eq])<;>exact rfl));(focus rfl);(focus rfl)));simp only[addFl])|(with_reducible apply zad;(focus ((conv=>lhs;simp[*,List.getElem?_append_right,List.set_append_right,List.getElem?_cons_zero,List.getElem?_append_left,List.set_append_left,-getElem?_pos,Nat.testBit_eq_decide_div_mod_eq])<;>exact rfl));simp only[addFl])|((with_reducible first|apply zai|apply zak|apply zah|apply zaf|apply zac|apply zaj|apply zag|apply zal|(apply zae;· simp[*,zaa])|(apply zab;· simp[*,zaa]));try simp only[Then,Ops,OutB,reduceIte])|simp only[Nat.reduceEqDiff,reduceIte,OutB,Then]))
          exact zan (v:=.tup []) (.inl rfl) rfl hgl (by simp only[resL];simp[*,resV]) HF.out
end K
end Ev
end Go.Proofs.Ytlcjlcllbgjplaa

/- slices.SortStableFunc, gone through: what follows a cut. -/
namespace Go.Proofs.Ytlcjlcllbgjplaa
open Go
namespace Srt2
theorem Sep.sub {A B A' B':List Nat}(h:Sep A B)(h1:∀ x∈A',x∈A)(h2:∀ x∈B',x∈B):Sep A' B':=fun x hx y hy=>h x (h1 x hx) y (h2 y hy)
end Srt2
namespace Ev
namespace K
attribute [local simp] ev1 wantG spineK spine float xnew xval xeff zaa zat zbb zax zaw addFl cellsOf pickC alive slLen slFt binI maxA maxK minA minK aeqK aeqS AV.cells spA zau fillA setAt bitsI nat_nn zbd AV.plain apart
set_option maxRecDepth 100000
set_option maxHeartbeats 4000000
theorem InB.step {H G:List AB}{q:Nat}{l0 l l':List Nat}{tc tc':List Nat}(h:InB H q l0 l G tc)(hq:q<H.length)(h1:∀ j∈tc',j=q)(h2:tc'=[]→l'=l):InB H q l0 l' (G.set q (.cells (us l'))) (tc'.filter (fun x=>decide (x<H.length))++tc):=by
  refine ⟨by rw[h.1,List.set_set],fun j hj=>?_,fun he=>?_⟩
  · rcases List.mem_append.1 hj with hj|hj
    · exact h1 j (List.mem_filter.1 hj).1
    · exact h.2.1 j hj
  · obtain ⟨e1,e2⟩:=List.append_eq_nil_iff.1 he
    have:tc'=[]:=by
      cases tc' with
      |nil=>rfl
      |cons x t=>
        have hx:=h1 x (by simp)
        rw[List.filter_cons_of_pos (by rw[hx];exact decide_eq_true hq)] at e1
        cases e1
    rw[h2 this,h.2.2 e2]
def SymC (call:CallF)(cf d:Nat):Prop:=∀ (H:List AB) (q N a m b:Nat) (P A B S:List Nat),HB H q (.cells (us (P++(A++(B++S)))))→(P++(A++(B++S))).length=N→N≤100000→P.length=a→a+A.length=m→m+B.length=b→A≠[]→B≠[]→A.length+B.length≤2 ^ d→Srt2.Sorted A→Srt2.Sorted B→Srt2.Sep A B→(∀ x∈A,x<1024)→(∀ x∈B,x<1024) →
  ∃ tc L,call (.fn (.func 104) [] []) [.sl q 0 N 1,.int .i64 a,.int .i64 m,.int .i64 b,.fn (.func cf) [] []] H=some (.ret (.tup []),H.set q (.cells (us (P++(L++S)))),tc)∧(∀ j∈tc,j=q)∧(tc=[]→P++(L++S)=P++(A++(B++S)))∧Srt2.Sorted L∧L.Perm (A++B)
theorem zrn {call:CallF}{cf d:Nat}(hS:SymC call cf d)(H G:List AB)(q N a m b:Nat)(l0 P A B S:List Nat)(tc:List Nat)(hq:q<H.length)(hG:InB H q l0 (P++(A++(B++S))) G tc)(hHG:HB G q (.cells (us (P++(A++(B++S))))))(hN0:(P++(A++(B++S))).length=N)(hN:N≤100000)(ha:P.length=a)(hm:a+A.length=m)(hb:m+B.length=b)(hd:A.length+B.length≤2 ^ d)(hA:Srt2.Sorted A)(hB:Srt2.Sorted B)(hs:Srt2.Sep A B)(h1:∀ x∈A,x<1024)(h2:∀ x∈B,x<1024):
    ∃ L G' tc',InB H q l0 (P++(L++S)) G' tc'∧Srt2.Sorted L∧L.Perm (A++B)∧((¬ a<m∧G'=G∧tc'=tc)∨(a<m∧¬ m<b∧G'=G∧tc'=tc)∨(a<m∧m<b∧∃ t,call (.fn (.func 104) [] []) [.sl q 0 N 1,.int .i64 a,.int .i64 m,.int .i64 b,.fn (.func cf) [] []] G=some (.ret (.tup []),G',t)∧tc'=t.filter (fun x=>decide (x<H.length))++tc)):=by
  by_cases hA0:A=[]
  · subst hA0
    exact ⟨B,G,tc,hG,hB,by simp,.inl ⟨by simp at hm;omega,rfl,rfl⟩⟩
  · have hl:=List.length_pos_iff.2 hA0
    by_cases hB0:B=[]
    · subst hB0
      exact ⟨A,G,tc,hG,hA,by simp,.inr (.inl ⟨by omega,by simp at hb;omega,rfl,rfl⟩)⟩
    · have hl2:=List.length_pos_iff.2 hB0
      obtain ⟨t,L,c1,c2,c3,c4,c5⟩:=hS G q N a m b P A B S hHG hN0 hN ha hm hb hA0 hB0 hd hA hB hs h1 h2
      exact ⟨L,_,_,hG.step hq c2 c3,c4,c5,.inr (.inr ⟨by omega,by omega,t,c1,rfl⟩)⟩
theorem sym_t3 (C:Cfg)(call:CallF)(cf d:Nat)(hS:SymC call cf d)(H:List AB)(q N mid e b:Nat)(P A B M1 A2 B2 S:List Nat)(l0:List Nat)(hl0:l0=P++(A++(B++S)))(hq:HB H q (.cells (us l0)))(G:List AB)(tc:List Nat)(hG:InB H q l0 ((P++M1)++(A2++(B2++S))) G tc)(hN0:((P++M1)++(A2++(B2++S))).length=N)(hN:N≤100000)(ha:(P++M1).length=mid)(hm:mid+A2.length=e)(hb:e+B2.length=b)(hd:A2.length+B2.length≤2 ^ d)(hA:Srt2.Sorted A2)(hB:Srt2.Sorted B2)(hs:Srt2.Sep A2 B2)(h1:∀ x∈A2,x<1024)(h2:∀ x∈B2,x<1024)
    (hj:∀ M2,Srt2.Sorted M2→M2.Perm (A2++B2)→Srt2.Sorted (M1++M2)∧(M1++M2).Perm (A++B))
    (L:List (Nat × AV)) (L0:lk 220 L 0=.sl q 0 N 1) (L3:lk 220 L 3=.int .i64 b) (L4:lk 220 L 4=.fn (.func cf) [] []) (L18:lk 220 L 18=.int .i64 mid) (L24:lk 220 L 24=.int .i64 e):
    Does (ev C call H.length none (atP [1,1,1,1,1,1,1,1,1,1,1] af104.body) { tm:=tmA 220 L,df:=[],hp:=G,tc:=tc })
      (Ends C H.length af104.res (SymP H q P A B S)):=by
  have m0:val C (tmA 220 L) (.tmp 0)=.sl q 0 N 1:=L0
  have m3:val C (tmA 220 L) (.tmp 3)=.int .i64 b:=L3
  have m4:val C (tmA 220 L) (.tmp 4)=.fn (.func cf) [] []:=L4
  have m18:val C (tmA 220 L) (.tmp 18)=.int .i64 mid:=L18
  have m24:val C (tmA 220 L) (.tmp 24)=.int .i64 e:=L24
  obtain ⟨M2,G',tc',f1,f2,f3,f4⟩:=zrn hS H G q N mid e b l0 (P++M1) A2 B2 S tc hq.lt hG (hG.hb hq) hN0 hN ha hm hb hd hA hB hs h1 h2
  obtain ⟨j1,j2⟩:=hj M2 f2 f3
  have hfin:SymP H q P A B S (.tup []) G' tc':=⟨rfl,M1++M2,by rw[← hl0];simpa using f1,j1,j2⟩
  have hgl:H.length≤G'.length:=by have:=f1.length;omega
  have HF:=hideP hfin
  clear hfin hS hl0 hq hG hN0 hN ha hm hb hd hA hB hs h1 h2 hj f1 f2 f3 j1 j2 L0 L3 L4 L18 L24
  unfold af104 Zq Zm Zo Zd Ze Zc Zt Zn
  simp only[atP]
  rcases f4 with ⟨f4,rfl,rfl⟩|⟨f4,f5,rfl,rfl⟩|⟨f4,f5,t,f6,rfl⟩
  · (repeat (first|((with_reducible apply zad);(focus ((with_reducible apply zap);(focus rfl);(focus rfl);(focus ((conv=>lhs;simp[*,List.getElem?_append_right,List.set_append_right,List.getElem?_cons_zero,List.getElem?_append_left,List.set_append_left,-getElem?_pos,Nat.testBit_eq_decide_div_mod_eq])<;>exact rfl));(focus rfl);(focus rfl)));simp only[addFl])|(with_reducible apply zad;(focus ((conv=>lhs;simp[*,List.getElem?_append_right,List.set_append_right,List.getElem?_cons_zero,List.getElem?_append_left,List.set_append_left,-getElem?_pos,Nat.testBit_eq_decide_div_mod_eq])<;>exact rfl));simp only[addFl])|((with_reducible first|apply zai|apply zak|apply zah|apply zaf|apply zac|apply zaj|apply zag|apply zal|(apply zae;· simp[*,zaa])|(apply zab;· simp[*,zaa]));try simp only[Then,Ops])|simp only[Nat.reduceEqDiff,reduceIte,OutB,Then]))
    exact zan (v:=.tup []) (.inr rfl) rfl hgl (by simp only[resL];simp[*,resV]) HF.out
  · (repeat (first|((with_reducible apply zad);(focus ((with_reducible apply zap);(focus rfl);(focus rfl);(focus ((conv=>lhs;simp[*,List.getElem?_append_right,List.set_append_right,List.getElem?_cons_zero,List.getElem?_append_left,List.set_append_left,-getElem?_pos,Nat.testBit_eq_decide_div_mod_eq])<;>exact rfl));(focus rfl);(focus rfl)));simp only[addFl])|(with_reducible apply zad;(focus ((conv=>lhs;simp[*,List.getElem?_append_right,List.set_append_right,List.getElem?_cons_zero,List.getElem?_append_left,List.set_append_left,-getElem?_pos,Nat.testBit_eq_decide_div_mod_eq])<;>exact rfl));simp only[addFl])|((with_reducible first|apply zai|apply zak|apply zah|apply zaf|apply zac|apply zaj|apply zag|apply zal|(apply zae;· simp[*,zaa])|(apply zab;· simp[*,zaa]));try simp only[Then,Ops])|simp only[Nat.reduceEqDiff,reduceIte,OutB,Then]))
    exact zan (v:=.tup []) (.inr rfl) rfl hgl (by simp only[resL];simp[*,resV]) HF.out
  · (repeat (first|((with_reducible apply zad);(focus ((with_reducible apply zap);(focus rfl);(focus rfl);(focus ((conv=>lhs;simp[*,List.getElem?_append_right,List.set_append_right,List.getElem?_cons_zero,List.getElem?_append_left,List.set_append_left,-getElem?_pos,Nat.testBit_eq_decide_div_mod_eq])<;>exact rfl));(focus rfl);(focus rfl)));simp only[addFl])|(with_reducible apply zad;(focus ((conv=>lhs;simp[*,List.getElem?_append_right,List.set_append_right,List.getElem?_cons_zero,List.getElem?_append_left,List.set_append_left,-getElem?_pos,Nat.testBit_eq_decide_div_mod_eq])<;>exact rfl));simp only[addFl])|((with_reducible first|apply zai|apply zak|apply zah|apply zaf|apply zac|apply zaj|apply zag|apply zal|(apply zae;· simp[*,zaa])|(apply zab;· simp[*,zaa]));try simp only[Then,Ops])|simp only[Nat.reduceEqDiff,reduceIte,OutB,Then]))
    exact zan (v:=.tup []) (.inr rfl) rfl hgl (by simp only[resL];simp[*,resV]) HF.out
theorem sym_t2 (C:Cfg)(call:CallF)(cf d:Nat)(hS:SymC call cf d)(H:List AB)(q N a start mid e b:Nat)(P A B A1 B1 A2 B2 S:List Nat)(l0:List Nat)(hl0:l0=P++(A++(B++S)))(hq:HB H q (.cells (us l0)))(G:List AB)(tc:List Nat)(hG:InB H q l0 (P++(A1++(B1++(A2++(B2++S))))) G tc)(hN0:(P++(A1++(B1++(A2++(B2++S))))).length=N)(hN:N≤100000)(ha:P.length=a)(hst:a+A1.length=start)(hmid:start+B1.length=mid)(hm:mid+A2.length=e)(hb:e+B2.length=b)(hd1:A1.length+B1.length≤2 ^ d)(hd:A2.length+B2.length≤2 ^ d)(hA1:Srt2.Sorted A1)(hB1:Srt2.Sorted B1)(hA:Srt2.Sorted A2)(hB:Srt2.Sorted B2)(hs1:Srt2.Sep A1 B1)(hs:Srt2.Sep A2 B2)(h10:∀ x,x∈A1∨x∈B1∨x∈A2∨x∈B2→x<1024)
    (hj:∀ M1 M2,Srt2.Sorted M1→M1.Perm (A1++B1)→Srt2.Sorted M2→M2.Perm (A2++B2)→Srt2.Sorted (M1++M2)∧(M1++M2).Perm (A++B))
    (L:List (Nat × AV)) (L0:lk 220 L 0=.sl q 0 N 1) (L1:lk 220 L 1=.int .i64 a) (L3:lk 220 L 3=.int .i64 b) (L4:lk 220 L 4=.fn (.func cf) [] []) (L18:lk 220 L 18=.int .i64 mid) (L20:lk 220 L 20=.int .i64 start) (L24:lk 220 L 24=.int .i64 e):
    Does (ev C call H.length none (atP [1,1,1,1,1,1,1,1,1,1] af104.body) { tm:=tmA 220 L,df:=[],hp:=G,tc:=tc })
      (Ends C H.length af104.res (SymP H q P A B S)):=by
  have m0:val C (tmA 220 L) (.tmp 0)=.sl q 0 N 1:=L0
  have m1:val C (tmA 220 L) (.tmp 1)=.int .i64 a:=L1
  have m3:val C (tmA 220 L) (.tmp 3)=.int .i64 b:=L3
  have m4:val C (tmA 220 L) (.tmp 4)=.fn (.func cf) [] []:=L4
  have m18:val C (tmA 220 L) (.tmp 18)=.int .i64 mid:=L18
  have m20:val C (tmA 220 L) (.tmp 20)=.int .i64 start:=L20
  have m24:val C (tmA 220 L) (.tmp 24)=.int .i64 e:=L24
  obtain ⟨M1,G',tc',f1,f2,f3,f4⟩:=zrn hS H G q N a start mid l0 P A1 B1 (A2++(B2++S)) tc hq.lt hG (hG.hb hq) hN0 hN ha hst hmid hd1 hA1 hB1 hs1 (fun x hx=>h10 x (.inl hx)) (fun x hx=>h10 x (.inr (.inl hx)))
  have hMl:=f3.length_eq
  have hend:=sym_t3 C call cf d hS H q N mid e b P A B M1 A2 B2 S l0 hl0 hq G' tc' (by rw[List.append_assoc];exact f1) (by rw[← hN0];simp only[List.length_append] at hMl ⊢;omega) hN (by simp only[List.length_append] at hMl ⊢;omega) hm hb hd hA hB hs (fun x hx=>h10 x (.inr (.inr (.inl hx)))) (fun x hx=>h10 x (.inr (.inr (.inr hx)))) (fun M2=>hj M1 M2 f2 f3)
  unfold af104 Zq Zm Zo Zd Ze Zc Zt Zn at hend
  simp only[atP] at hend
  have HE:=hideP hend
  clear hend hS hl0 hq hG hN0 hN ha hst hmid hm hb hd hd1 hA1 hB1 hA hB hs hs1 h10 hj f1 f2 f3 hMl
  unfold af104 Zq Zm Zo Zd Ze Zc Zt Zn
  simp only[atP]
  rcases f4 with ⟨f4,rfl,rfl⟩|⟨f4,f5,rfl,rfl⟩|⟨f4,f5,t,f6,rfl⟩
  · (repeat (first|(with_reducible refine HE.out _ ?_ ?_ ?_ ?_ ?_<;>simp[*,zar])|((with_reducible apply zad);(focus ((with_reducible apply zap);(focus rfl);(focus rfl);(focus ((conv=>lhs;simp[*,List.getElem?_append_right,List.set_append_right,List.getElem?_cons_zero,List.getElem?_append_left,List.set_append_left,-getElem?_pos,Nat.testBit_eq_decide_div_mod_eq])<;>exact rfl));(focus rfl);(focus rfl)));simp only[addFl])|(with_reducible apply zad;(focus ((conv=>lhs;simp[*,List.getElem?_append_right,List.set_append_right,List.getElem?_cons_zero,List.getElem?_append_left,List.set_append_left,-getElem?_pos,Nat.testBit_eq_decide_div_mod_eq])<;>exact rfl));simp only[addFl])|((with_reducible first|apply zai|apply zak|apply zah|apply zaf|apply zac|apply zaj|apply zag|apply zal|(apply zae;· simp[*,zaa])|(apply zab;· simp[*,zaa]));try simp only[Then,Ops])|simp only[Nat.reduceEqDiff,reduceIte,OutB,Then]))
  · (repeat (first|(with_reducible refine HE.out _ ?_ ?_ ?_ ?_ ?_<;>simp[*,zar])|((with_reducible apply zad);(focus ((with_reducible apply zap);(focus rfl);(focus rfl);(focus ((conv=>lhs;simp[*,List.getElem?_append_right,List.set_append_right,List.getElem?_cons_zero,List.getElem?_append_left,List.set_append_left,-getElem?_pos,Nat.testBit_eq_decide_div_mod_eq])<;>exact rfl));(focus rfl);(focus rfl)));simp only[addFl])|(with_reducible apply zad;(focus ((conv=>lhs;simp[*,List.getElem?_append_right,List.set_append_right,List.getElem?_cons_zero,List.getElem?_append_left,List.set_append_left,-getElem?_pos,Nat.testBit_eq_decide_div_mod_eq])<;>exact rfl));simp only[addFl])|((with_reducible first|apply zai|apply zak|apply zah|apply zaf|apply zac|apply zaj|apply zag|apply zal|(apply zae;· simp[*,zaa])|(apply zab;· simp[*,zaa]));try simp only[Then,Ops])|simp only[Nat.reduceEqDiff,reduceIte,OutB,Then]))
  · (repeat (first|(with_reducible refine HE.out _ ?_ ?_ ?_ ?_ ?_<;>simp[*,zar])|((with_reducible apply zad);(focus ((with_reducible apply zap);(focus rfl);(focus rfl);(focus ((conv=>lhs;simp[*,List.getElem?_append_right,List.set_append_right,List.getElem?_cons_zero,List.getElem?_append_left,List.set_append_left,-getElem?_pos,Nat.testBit_eq_decide_div_mod_eq])<;>exact rfl));(focus rfl);(focus rfl)));simp only[addFl])|(with_reducible apply zad;(focus ((conv=>lhs;simp[*,List.getElem?_append_right,List.set_append_right,List.getElem?_cons_zero,List.getElem?_append_left,List.set_append_left,-getElem?_pos,Nat.testBit_eq_decide_div_mod_eq])<;>exact rfl));simp only[addFl])|((with_reducible first|apply zai|apply zak|apply zah|apply zaf|apply zac|apply zaj|apply zag|apply zal|(apply zae;· simp[*,zaa])|(apply zab;· simp[*,zaa]));try simp only[Then,Ops])|simp only[Nat.reduceEqDiff,reduceIte,OutB,Then]))
end K
end Ev
end Go.Proofs.Ytlcjlcllbgjplaa

/- slices.SortStableFunc, gone through: merges. -/
namespace Go.Proofs.Ytlcjlcllbgjplaa
open Go
namespace Ev
namespace K
attribute [local simp] ev1 wantG spineK spine float xnew xval xeff zaa zat zbb zax zaw addFl cellsOf pickC alive slLen slFt binI maxA maxK minA minK aeqK aeqS AV.cells spA zau fillA setAt bitsI nat_nn zbd AV.plain apart
set_option maxRecDepth 100000
set_option maxHeartbeats 4000000
theorem sym_t1 (C:Cfg)(call:CallF)(cf d:Nat)(hS:SymC call cf d)(hR:RotC call)(H:List AB)(q N a start m mid n e b:Nat)(P A B A1 B1 A2 B2 S:List Nat)(hAe:A=A1++A2)(hBe:B=B1++B2)(hq:HB H q (.cells (us (P++(A++(B++S))))))(hN0:(P++(A++(B++S))).length=N)(hN:N≤100000)(ha:P.length=a)(hst:a+A1.length=start)(hm:start+A2.length=m)(hmid:start+B1.length=mid)(hn:mid+m=n)(he:m+B1.length=e)(hb:e+B2.length=b)(hd1:A1.length+B1.length≤2 ^ d)(hd:A2.length+B2.length≤2 ^ d)(hA:Srt2.Sorted A)(hB:Srt2.Sorted B)(hs:Srt2.Sep A B)(h10:∀ x,x∈A∨x∈B→x<1024)
    (c1:∀ x∈A1,∀ y∈B2,Srt2.LTs x y) (c2:∀ x∈B1,∀ y∈A2,Srt2.LTs x y)
    (L:List (Nat × AV)) (L0:lk 220 L 0=.sl q 0 N 1) (L1:lk 220 L 1=.int .i64 a) (L2:lk 220 L 2=.int .i64 m) (L3:lk 220 L 3=.int .i64 b) (L4:lk 220 L 4=.fn (.func cf) [] []) (L18:lk 220 L 18=.int .i64 mid) (L19:lk 220 L 19=.int .i64 n) (L20:lk 220 L 20=.int .i64 start):
    Does (ev C call H.length none (atP [1,1,1,1,1,1,1,1] af104.body) { tm:=tmA 220 L,df:=[],hp:=H,tc:=[] })
      (Ends C H.length af104.res (SymP H q P A B S)):=by
  have m0:val C (tmA 220 L) (.tmp 0)=.sl q 0 N 1:=L0
  have m1:val C (tmA 220 L) (.tmp 1)=.int .i64 a:=L1
  have m2:val C (tmA 220 L) (.tmp 2)=.int .i64 m:=L2
  have m3:val C (tmA 220 L) (.tmp 3)=.int .i64 b:=L3
  have m4:val C (tmA 220 L) (.tmp 4)=.fn (.func cf) [] []:=L4
  have m18:val C (tmA 220 L) (.tmp 18)=.int .i64 mid:=L18
  have m19:val C (tmA 220 L) (.tmp 19)=.int .i64 n:=L19
  have m20:val C (tmA 220 L) (.tmp 20)=.int .i64 start:=L20
  subst hAe hBe
  have hl:a+A1.length+A2.length+B1.length+B2.length+S.length=N:=by rw[← hN0,← ha];simp only[List.length_append];omega
  have w1:IntKind.i64.wrap ((n:Int) - start)=e:=by rw[show (n:Int) - start=e by omega];exact zas (by omega) (by omega)
  have harr:P++((A1++A2)++((B1++B2)++S))=(P++A1)++(A2++(B1++(B2++S))):=by simp
  have key:∃ G tc,InB H q (P++((A1++A2)++((B1++B2)++S))) (P++(A1++(B1++(A2++(B2++S))))) G tc∧((¬ start<m∧G=H∧tc=[])∨(start<m∧¬ m<e∧G=H∧tc=[])∨(start<m∧m<e∧∃ t,call (.fn (.func 108) [] []) [.sl q 0 N 1,.int .i64 start,.int .i64 m,.int .i64 e,.fn (.func cf) [] []] H=some (.ret (.tup []),G,t)∧tc=t.filter (fun x=>decide (x<H.length)))):=by
    have h0:InB H q (P++((A1++A2)++((B1++B2)++S))) (P++((A1++A2)++((B1++B2)++S))) H []:=⟨hq.same.symm,by simp,fun _=>rfl⟩
    by_cases hA0:A2=[]
    · subst hA0
      refine ⟨H,[],?_,.inl ⟨by simp at hm;omega,rfl,rfl⟩⟩
      simpa using h0
    · have hl:=List.length_pos_iff.2 hA0
      by_cases hB0:B1=[]
      · subst hB0
        refine ⟨H,[],?_,.inr (.inl ⟨by omega,by simp at he;omega,rfl,rfl⟩)⟩
        simpa using h0
      · have hl2:=List.length_pos_iff.2 hB0
        obtain ⟨t,d1,d2,d3⟩:=hR H q N start m e (P++A1) A2 B1 (B2++S) (.fn (.func cf) [] []) (by rw[← harr];exact hq) (by rw[← harr];exact hN0) hN (by simp only[List.length_append];omega) (by simp only[List.length_append];omega) (by simp only[List.length_append];omega) hA0 hB0
        rw[List.append_assoc] at d1
        exact ⟨_,_,by have:=h0.step (l':=P++(A1++(B1++(A2++(B2++S))))) hq.lt d2 (fun h=>absurd h d3);rw[List.append_nil] at this;exact this,.inr (.inr ⟨by omega,by omega,t,d1,rfl⟩)⟩
  obtain ⟨G,tc,f1,f4⟩:=key
  have hAp:=List.pairwise_append.1 hA
  have hBp:=List.pairwise_append.1 hB
  have hend:=sym_t2 C call cf d hS H q N a start mid e b P (A1++A2) (B1++B2) A1 B1 A2 B2 S _ rfl hq G tc f1 (by simp only[List.length_append];omega) hN ha hst hmid (by omega) hb hd1 hd hAp.1 hBp.1 hAp.2.1 hBp.2.1 (hs.sub (fun x hx=>by simp[hx]) (fun x hx=>by simp[hx])) (hs.sub (fun x hx=>by simp[hx]) (fun x hx=>by simp[hx])) (fun x hx=>h10 x (by simp only[List.mem_append];rcases hx with h|h|h|h<;>simp[h])) (fun M1 M2 s1 p1 s2 p2=>Srt2.sorted_join hA hB c1 c2 s1 s2 p1 p2)
  unfold af104 Zq Zm Zo Zd Ze Zc Zt Zn at hend
  simp only[atP] at hend
  have HE:=hideP hend
  clear hend hS hR hq hN0 hN ha hst hmid hm hb hd hd1 hA hB hs h10 c1 c2 hl harr f1 hAp hBp hn he
  unfold af104 Zq Zm Zo Zd Ze Zc Zt Zn
  simp only[atP]
  rcases f4 with ⟨f4,rfl,rfl⟩|⟨f4,f5,rfl,rfl⟩|⟨f4,f5,t,f6,rfl⟩
  · (repeat (first|(with_reducible refine HE.out _ ?_ ?_ ?_ ?_ ?_ ?_ ?_<;>simp[*,zar])|((with_reducible apply zad);(focus ((with_reducible apply zap);(focus rfl);(focus rfl);(focus ((conv=>lhs;simp[*,List.getElem?_append_right,List.set_append_right,List.getElem?_cons_zero,List.getElem?_append_left,List.set_append_left,-getElem?_pos,Nat.testBit_eq_decide_div_mod_eq])<;>exact rfl));(focus rfl);(focus rfl)));simp only[addFl])|(with_reducible apply zad;(focus ((conv=>lhs;simp[*,List.getElem?_append_right,List.set_append_right,List.getElem?_cons_zero,List.getElem?_append_left,List.set_append_left,-getElem?_pos,Nat.testBit_eq_decide_div_mod_eq])<;>exact rfl));simp only[addFl])|((with_reducible first|apply zai|apply zak|apply zah|apply zaf|apply zac|apply zaj|apply zag|apply zal|(apply zae;· simp[*,zaa])|(apply zab;· simp[*,zaa]));try simp only[Then,Ops])|simp only[Nat.reduceEqDiff,reduceIte,OutB,Then]))
  · (repeat (first|(with_reducible refine HE.out _ ?_ ?_ ?_ ?_ ?_ ?_ ?_<;>simp[*,zar])|((with_reducible apply zad);(focus ((with_reducible apply zap);(focus rfl);(focus rfl);(focus ((conv=>lhs;simp[*,List.getElem?_append_right,List.set_append_right,List.getElem?_cons_zero,List.getElem?_append_left,List.set_append_left,-getElem?_pos,Nat.testBit_eq_decide_div_mod_eq])<;>exact rfl));(focus rfl);(focus rfl)));simp only[addFl])|(with_reducible apply zad;(focus ((conv=>lhs;simp[*,List.getElem?_append_right,List.set_append_right,List.getElem?_cons_zero,List.getElem?_append_left,List.set_append_left,-getElem?_pos,Nat.testBit_eq_decide_div_mod_eq])<;>exact rfl));simp only[addFl])|((with_reducible first|apply zai|apply zak|apply zah|apply zaf|apply zac|apply zaj|apply zag|apply zal|(apply zae;· simp[*,zaa])|(apply zab;· simp[*,zaa]));try simp only[Then,Ops])|simp only[Nat.reduceEqDiff,reduceIte,OutB,Then]))
  · (repeat (first|(with_reducible refine HE.out _ ?_ ?_ ?_ ?_ ?_ ?_ ?_<;>simp[*,zar])|((with_reducible apply zad);(focus ((with_reducible apply zap);(focus rfl);(focus rfl);(focus ((conv=>lhs;simp[*,List.getElem?_append_right,List.set_append_right,List.getElem?_cons_zero,List.getElem?_append_left,List.set_append_left,-getElem?_pos,Nat.testBit_eq_decide_div_mod_eq])<;>exact rfl));(focus rfl);(focus rfl)));simp only[addFl])|(with_reducible apply zad;(focus ((conv=>lhs;simp[*,List.getElem?_append_right,List.set_append_right,List.getElem?_cons_zero,List.getElem?_append_left,List.set_append_left,-getElem?_pos,Nat.testBit_eq_decide_div_mod_eq])<;>exact rfl));simp only[addFl])|((with_reducible first|apply zai|apply zak|apply zah|apply zaf|apply zac|apply zaj|apply zag|apply zal|(apply zae;· simp[*,zaa])|(apply zab;· simp[*,zaa]));try simp only[Then,Ops])|simp only[Nat.reduceEqDiff,reduceIte,OutB,Then]))
def sy8 (q N a m b cf mid n p i j:Nat)(G:List AB)(tc:List Nat):St:={ tm:=tmA 220 [(22,.int .i64 p),(21,.int .i64 j),(20,.int .i64 i),(19,.int .i64 n),(18,.int .i64 mid),(4,.fn (.func cf) [] []),(3,.int .i64 b),(2,.int .i64 m),(1,.int .i64 a),(0,.sl q 0 N 1)],df:=[],hp:=G,tc:=tc }
theorem zhm (C:Cfg)(hC:C.calm=true)(call:CallF)(cf d:Nat)(hK:CmpC call cf)(hS:SymC call cf d)(hR:RotC call)(H:List AB)(q N a m mid n p b s0 r0:Nat)(P A B S:List Nat)(hq:HB H q (.cells (us (P++(A++(B++S))))))(hN0:(P++(A++(B++S))).length=N)(hN:N≤100000)(ha:P.length=a)(hm:a+A.length=m)(hb:m+B.length=b)(hmid:(a+b) / 2=mid)(hn:mid+m=n)(hp:p+1=n)(hs0:s0=a∨s0+b=n)(hr0:r0=mid∨r0=m)(hs1:a≤s0)(hs2:n≤s0+b)(hr1:r0≤mid)(hr2:r0≤m)(hsr:s0≤r0)(hd:A.length+B.length≤2 ^ (d+1))(h2:2≤A.length+B.length)(hA:Srt2.Sorted A)(hB:Srt2.Sorted B)(hs:Srt2.Sep A B)(h10:∀ x,x∈A∨x∈B→x<1024)
    (L:List (Nat × AV)) (L0:lk 220 L 0=.sl q 0 N 1) (L1:lk 220 L 1=.int .i64 a) (L2:lk 220 L 2=.int .i64 m) (L3:lk 220 L 3=.int .i64 b) (L4:lk 220 L 4=.fn (.func cf) [] []) (L18:lk 220 L 18=.int .i64 mid) (L19:lk 220 L 19=.int .i64 n) (L20:lk 220 L 20=.int .i64 s0) (L21:lk 220 L 21=.int .i64 r0) (L22:lk 220 L 22=.int .i64 p):
    Does (ev C call H.length none (atP [1,1,1,1,1,1,1] af104.body) { tm:=tmA 220 L,df:=[],hp:=H,tc:=[] })
      (Ends C H.length af104.res (SymP H q P A B S)):=by
  have hlen:a+A.length+B.length+S.length=N:=by rw[← hN0,← ha];simp only[List.length_append];omega
  have hpow:2 ^ (d+1)=2 * 2 ^ d:=by rw[Nat.pow_succ];omega
  have HX:=hideP (And.intro hq (And.intro hN0 (And.intro ha (And.intro hm (And.intro hb (And.intro hA (And.intro hB (And.intro hs (And.intro h10 (And.intro hlen (And.intro hS hR)))))))))))
  have HI:=hideP (And.intro hmid (And.intro hn (And.intro hp (And.intro hs0 (And.intro hr0 (And.intro hs1 (And.intro hs2 (And.intro hr1 (And.intro hr2 (And.intro hsr (And.intro hd (And.intro h2 hpow))))))))))))
  clear hq hN0 ha hm hb hA hB hs h10 hlen hS hR hmid hn hp hs0 hr0 hs1 hs2 hr1 hr2 hsr hd h2 hpow
  unfold af104 Zq Zm Zo Zd Ze Zc Zt Zn
  simp only[atP] at *
  (repeat (first|((with_reducible apply zad);(focus ((with_reducible apply zap);(focus rfl);(focus rfl);(focus ((conv=>lhs;simp[*,List.getElem?_append_right,List.set_append_right,List.getElem?_cons_zero,List.getElem?_append_left,List.set_append_left,-getElem?_pos,Nat.testBit_eq_decide_div_mod_eq])<;>exact rfl));(focus rfl);(focus rfl)));simp only[addFl])|(with_reducible apply zad;(focus ((conv=>lhs;simp[*,List.getElem?_append_right,List.set_append_right,List.getElem?_cons_zero,List.getElem?_append_left,List.set_append_left,-getElem?_pos,Nat.testBit_eq_decide_div_mod_eq])<;>exact rfl));simp only[addFl])|((with_reducible first|apply zai|apply zak|apply zah|apply zaf|apply zac|apply zaj|apply zag|apply zal|(apply zae;· simp[*,zaa])|(apply zab;· simp[*,zaa]));try simp only[Then,Ops,OutB,reduceIte])|simp only[Nat.reduceEqDiff,reduceIte,OutB,Then]))
  with_reducible refine zcd hC (r0 - s0) (by obtain ⟨-,-,ha,hm,hb,-,-,-,-,hlen,-,-⟩:=HX.out;obtain ⟨hmid,hn,hp,hs0,hr0,hs1,hs2,hr1,hr2,hsr,hd,h2,hpow⟩:=HI.out;unfold fuelL;omega) (fun k st=>∃ i j,k=j - i∧s0≤i∧i≤j∧j≤r0∧(∀ t u (h:t<A.length) (h':u<B.length),s0≤a+t→a+t<i→a+t+(m+u)=p→Srt2.LTs A[t] B[u])∧(∀ t u (h:t<A.length) (h':u<B.length),j≤a+t→a+t<r0→a+t+(m+u)=p→Srt2.LTs B[u] A[t])∧st=sy8 q N a m b cf mid n p i j H []) ?_ ?_
  · obtain ⟨hq,hN0,ha,hm,hb,hA,hB,hs,h10,hlen,hS,hR⟩:=HX.out
    obtain ⟨hmid,hn,hp,hs0,hr0,hs1,hs2,hr1,hr2,hsr,hd,h2,hpow⟩:=HI.out
    refine ⟨s0,r0,rfl,Nat.le_refl _,hsr,Nat.le_refl _,fun t u h h' h1 h2=>by omega,fun t u h h' h1 h2=>by omega,?_⟩
    unfold sy8
    exact st_eq (by simp[*,zao]) rfl (by simp) (by simp)
  · rintro k st ⟨i,j,hk,h1,h3,h4,h5,h6,rfl⟩
    obtain ⟨hq,hN0,ha,hm,hb,hA,hB,hs,h10,hlen,hS,hR⟩:=HX.out
    obtain ⟨hmid,hn,hp,hs0,hr0,hs1,hs2,hr1,hr2,hsr,hd,h2,hpow⟩:=HI.out
    by_cases hij:i<j
    · obtain ⟨f1,f2,f3,f4,f5⟩:=zge (i:=i) (j:=j) (by omega)
      obtain ⟨h,hh⟩:∃ h,(i+j) / 2=h:=⟨_,rfl⟩
      rw[hh] at f3 f4 f5
      have hlo:i≤h:=by omega
      have hhi:h<j:=by omega
      have ht:h - a<A.length:=by omega
      have hu:mid - 1 - h<B.length:=by omega
      obtain ⟨ph,hph⟩:∃ ph,ph+h=p:=⟨p - h,by omega⟩
      have w1:IntKind.i64.wrap ((p:Int) - h)=ph:=by rw[show (p:Int) - h=ph by omega];exact zas (by omega) (by omega)
      have hgz:(P++(A++(B++S))).getD h 0=A[h - a]:=by
        rw[List.getD_eq_getElem?_getD,List.getElem?_append_right (by omega),List.getElem?_append_left (by omega),ha,List.getElem?_eq_getElem ht];rfl
      have hgx:(P++(A++(B++S))).getD ph 0=B[mid - 1 - h]:=by
        rw[List.getD_eq_getElem?_getD,List.getElem?_append_right (by omega),List.getElem?_append_right (by omega),List.getElem?_append_left (by omega),show ph - P.length - A.length=mid - 1 - h by omega,List.getElem?_eq_getElem hu];rfl
      have r1:=us_get (l:=P++(A++(B++S))) (i:=h) (by omega)
      have r2:=us_get (l:=P++(A++(B++S))) (i:=ph) (by omega)
      rw[hgz] at r1
      rw[hgx] at r2
      have hz:=hs _ (List.getElem_mem ht) _ (List.getElem_mem hu)
      have hz1:=h10 _ (.inl (List.getElem_mem ht))
      have hz2:=h10 _ (.inr (List.getElem_mem hu))
      have hlt:=Srt2.lts_right hz
      have hge:=Srt2.lts_left hz
      have hup:Srt2.LTs A[h - a] B[mid - 1 - h]→∀ t u (h1:t<A.length) (h2:u<B.length),s0≤a+t→a+t<h+1→a+t+(m+u)=p→Srt2.LTs A[t] B[u]:=fun hl t u h' h'' h7 h8 h9=>
        Srt2.or_lts (Srt2.lts_or (Srt2.sorted_get hA h' ht (by omega)) hl) (Srt2.sorted_get hB hu h'' (by omega))
      have hdn:Srt2.LTs B[mid - 1 - h] A[h - a]→∀ t u (h1:t<A.length) (h2:u<B.length),h≤a+t→a+t<r0→a+t+(m+u)=p→Srt2.LTs B[u] A[t]:=fun hl t u h' h'' h7 h8 h9=>
        Srt2.or_lts (Srt2.lts_or (Srt2.sorted_get hB h'' hu (by omega)) hl) (Srt2.sorted_get hA ht h' (by omega))
      generalize A[h - a]=z at *
      generalize B[mid - 1 - h]=y at *
      have hc:=fun H=>hK H y z hz2 hz1
      have hul:(us (P++(A++(B++S)))).length=N:=by rw[us_len,hN0]
      obtain ⟨A1,A2,A3⟩:=hq
      generalize us (P++(A++(B++S)))=arr at *
      have r1':=ge_of r1
      have r2':=ge_of r2
      have g1:(h:Int)<N:=by omega
      have g2:(ph:Int)<N:=by omega
      have g3:h+1≤N:=by omega
      have g4:ph+1≤N:=by omega
      have g5:(i:Int)<j:=by omega
      have g6:IntKind.i64.wrap ((h:Int)+1)=h+1:=zas (by omega) (by omega)
      by_cases hsz:Clm.sizeN y<Clm.sizeN z
      · have hfin:∃ q',q'<k∧∃ i' j',q'=j' - i'∧s0≤i'∧i'≤j'∧j'≤r0∧(∀ t u (h:t<A.length) (h':u<B.length),s0≤a+t→a+t<i'→a+t+(m+u)=p→Srt2.LTs A[t] B[u])∧(∀ t u (h:t<A.length) (h':u<B.length),j'≤a+t→a+t<r0→a+t+(m+u)=p→Srt2.LTs B[u] A[t])∧i'=i∧j'=h:=
          ⟨h - i,by omega,i,h,rfl,by omega,by omega,by omega,h5,hdn (hlt.2 hsz),rfl,rfl⟩
        have HF:=hideP hfin
        have hd:(Clm.sizeN y:Int) - Clm.sizeN z<0:=by omega
        generalize (Clm.sizeN y:Int) - Clm.sizeN z=d at *
        generalize i+j=s at *
        clear hfin hK hk h1 h2 h3 h4 h5 h6 hup hdn hlt hge hz hz1 hz2 hs hsz hgz hgx hlo hhi ht hu hN0 ha hm hb hA hB h10 hlen hh hS hR hmid hn hp hs0 hr0 hs1 hs2 hr1 hr2 hsr hph hpow
        unfold sy8
        (repeat (first|((with_reducible apply zad);(focus ((with_reducible apply zap);(focus rfl);(focus rfl);(focus ((conv=>lhs;simp[*,List.getElem?_append_right,List.set_append_right,List.getElem?_cons_zero,List.getElem?_append_left,List.set_append_left,-getElem?_pos,Nat.testBit_eq_decide_div_mod_eq])<;>exact rfl));(focus rfl);(focus rfl)));simp only[addFl])|(with_reducible apply zad;(focus ((conv=>lhs;simp[*,List.getElem?_append_right,List.set_append_right,List.getElem?_cons_zero,List.getElem?_append_left,List.set_append_left,-getElem?_pos,Nat.testBit_eq_decide_div_mod_eq])<;>exact rfl));simp only[addFl])|((with_reducible first|apply zai|apply zak|apply zah|apply zaf|apply zac|apply zaj|apply zag|apply zal|(apply zae;· simp[*,zaa])|(apply zab;· simp[*,zaa]));try simp only[Then,Ops,OutB])|simp only[Nat.reduceEqDiff,reduceIte,OutB,Then]))
        obtain ⟨q',e1,i',j',e2,e3,e4,e5,e6,e7,rfl,rfl⟩:=HF.out
        refine ⟨q',e1,_,_,e2,e3,e4,e5,e6,e7,?_⟩
        (refine st_is ?_ ?_ ?_ ?_;(focus (simp[zao,zar]));(focus rfl);(focus (first|rfl|(simp;done)|(simp[*];done)|(simp;rfl)|(simp[*];omega)|(simp;omega)));(focus (first|rfl|simp)))
      · have hfin:∃ q',q'<k∧∃ i' j',q'=j' - i'∧s0≤i'∧i'≤j'∧j'≤r0∧(∀ t u (h:t<A.length) (h':u<B.length),s0≤a+t→a+t<i'→a+t+(m+u)=p→Srt2.LTs A[t] B[u])∧(∀ t u (h:t<A.length) (h':u<B.length),j'≤a+t→a+t<r0→a+t+(m+u)=p→Srt2.LTs B[u] A[t])∧i'=h+1∧j'=j:=
          ⟨j - (h+1),by omega,h+1,j,rfl,by omega,by omega,by omega,hup (hge.2 hsz),h6,rfl,rfl⟩
        have HF:=hideP hfin
        have hd:¬ ((Clm.sizeN y:Int) - Clm.sizeN z<0):=by omega
        generalize (Clm.sizeN y:Int) - Clm.sizeN z=d at *
        generalize i+j=s at *
        clear hfin hK hk h1 h2 h3 h4 h5 h6 hup hdn hlt hge hz hz1 hz2 hs hsz hgz hgx hlo hhi ht hu hN0 ha hm hb hA hB h10 hlen hh hS hR hmid hn hp hs0 hr0 hs1 hs2 hr1 hr2 hsr hph hpow
        unfold sy8
        (repeat (first|((with_reducible apply zad);(focus ((with_reducible apply zap);(focus rfl);(focus rfl);(focus ((conv=>lhs;simp[*,List.getElem?_append_right,List.set_append_right,List.getElem?_cons_zero,List.getElem?_append_left,List.set_append_left,-getElem?_pos,Nat.testBit_eq_decide_div_mod_eq])<;>exact rfl));(focus rfl);(focus rfl)));simp only[addFl])|(with_reducible apply zad;(focus ((conv=>lhs;simp[*,List.getElem?_append_right,List.set_append_right,List.getElem?_cons_zero,List.getElem?_append_left,List.set_append_left,-getElem?_pos,Nat.testBit_eq_decide_div_mod_eq])<;>exact rfl));simp only[addFl])|((with_reducible first|apply zai|apply zak|apply zah|apply zaf|apply zac|apply zaj|apply zag|apply zal|(apply zae;· simp[*,zaa])|(apply zab;· simp[*,zaa]));try simp only[Then,Ops,OutB])|simp only[Nat.reduceEqDiff,reduceIte,OutB,Then]))
        obtain ⟨q',e1,i',j',e2,e3,e4,e5,e6,e7,rfl,rfl⟩:=HF.out
        refine ⟨q',e1,_,_,e2,e3,e4,e5,e6,e7,?_⟩
        (refine st_is ?_ ?_ ?_ ?_;(focus (simp[zao,zar]));(focus rfl);(focus (first|rfl|(simp;done)|(simp[*];done)|(simp;rfl)|(simp[*];omega)|(simp;omega)));(focus (first|rfl|simp)))
    · have hij':i=j:=by omega
      subst hij'
      have hc := Srt2.sym_cut hA hB (i - a) (mid - i) (by omega) (by omega) (fun x y h0 hx hy => by
        obtain ⟨l1,rfl⟩:=List.getElem?_eq_some_iff.1 hx
        obtain ⟨l2,rfl⟩:=List.getElem?_eq_some_iff.1 hy
        exact h5 _ _ l1 l2 (by omega) (by omega) (by omega)) (fun x y h0 hy hx=>by
        obtain ⟨l1,rfl⟩:=List.getElem?_eq_some_iff.1 hx
        obtain ⟨l2,rfl⟩:=List.getElem?_eq_some_iff.1 hy
        exact h6 _ _ l1 l2 (by omega) (by omega) (by omega))
      have hend:=sym_t1 C call cf d hS hR H q N a i m mid n (m+(mid - i)) b P A B (A.take (i - a)) (B.take (mid - i)) (A.drop (i - a)) (B.drop (mid - i)) S (List.take_append_drop _ _).symm (List.take_append_drop _ _).symm hq hN0 hN ha (by rw[List.length_take];omega) (by rw[List.length_drop];omega) (by rw[List.length_take];omega) hn (by rw[List.length_take];omega) (by rw[List.length_drop];omega) (by rw[List.length_take,List.length_take];omega) (by rw[List.length_drop,List.length_drop];omega) hA hB hs h10 hc.1 hc.2
      have g5:¬ ((i:Int)<i):=by omega
      unfold af104 Zq Zm Zo Zd Ze Zc Zt Zn at hend
      simp only[atP] at hend
      have HE:=hideP hend
      clear hend hK hk h1 h2 h3 h4 h5 h6 hij hq hN0 ha hm hb hA hB hs h10 hlen hS hR hmid hn hp hs0 hr0 hs1 hs2 hr1 hr2 hsr hd hc hpow L0 L1 L2 L3 L4 L18 L19 L20 L21 L22
      unfold sy8
      (repeat (first|(with_reducible refine HE.out _ ?_ ?_ ?_ ?_ ?_ ?_ ?_ ?_<;>simp[zar])|((with_reducible apply zad);(focus ((with_reducible apply zap);(focus rfl);(focus rfl);(focus ((conv=>lhs;simp[*,List.getElem?_append_right,List.set_append_right,List.getElem?_cons_zero,List.getElem?_append_left,List.set_append_left,-getElem?_pos,Nat.testBit_eq_decide_div_mod_eq])<;>exact rfl));(focus rfl);(focus rfl)));simp only[addFl])|(with_reducible apply zad;(focus ((conv=>lhs;simp[*,List.getElem?_append_right,List.set_append_right,List.getElem?_cons_zero,List.getElem?_append_left,List.set_append_left,-getElem?_pos,Nat.testBit_eq_decide_div_mod_eq])<;>exact rfl));simp only[addFl])|((with_reducible first|apply zai|apply zak|apply zah|apply zaf|apply zac|apply zaj|apply zag|apply zal|(apply zae;· simp[*,zaa])|(apply zab;· simp[*,zaa]));try simp only[Then,Ops,OutB,reduceIte])|simp only[Nat.reduceEqDiff,reduceIte,OutB,Then]))
theorem zxr (C:Cfg)(hC:C.calm=true)(call:CallF)(cf d:Nat)(hK:CmpC call cf)(hS:SymC call cf d)(hR:RotC call)(H:List AB)(q N a m b:Nat)(P A B S:List Nat)(hq:HB H q (.cells (us (P++(A++(B++S))))))(hN0:(P++(A++(B++S))).length=N)(hN:N≤100000)(ha:P.length=a)(hm:a+A.length=m)(hb:m+B.length=b)(hA2:2≤A.length)(hB2:2≤B.length)(hd:A.length+B.length≤2 ^ (d+1))(hA:Srt2.Sorted A)(hB:Srt2.Sorted B)(hs:Srt2.Sep A B)(h10:∀ x,x∈A∨x∈B→x<1024):
    Does (ev C call H.length none af104.body { tm:=tmA af104.ntmps (zipI 0 [.sl q 0 N 1,.int .i64 a,.int .i64 m,.int .i64 b,.fn (.func cf) [] []] []),df:=[],hp:=H,tc:=[] })
      (Ends C H.length af104.res (SymP H q P A B S)):=by
  have hlen:a+A.length+B.length+S.length=N:=by rw[← hN0,← ha];simp only[List.length_append];omega
  have w0:IntKind.i64.wrap ((m:Int) - a)=(A.length:Int):=by rw[show (m:Int) - a=A.length by omega];exact zas (by omega) (by omega)
  have w0':((A.length:Int)==1)=false:=beq_false_of_ne (by omega)
  have w1:IntKind.i64.wrap ((b:Int) - m)=(B.length:Int):=by rw[show (b:Int) - m=B.length by omega];exact zas (by omega) (by omega)
  have w1':((B.length:Int)==1)=false:=beq_false_of_ne (by omega)
  obtain ⟨f1,f2,f3,f4,f5⟩:=zge (i:=a) (j:=b) (by omega)
  obtain ⟨mid,hmid⟩:∃ mid,(a+b) / 2=mid:=⟨_,rfl⟩
  obtain ⟨n,hn⟩:∃ n,mid+m=n:=⟨_,rfl⟩
  obtain ⟨p,hp⟩:∃ p,p+1=n:=⟨n - 1,by omega⟩
  rw[hmid] at f3 f4 f5
  have w2:IntKind.i64.wrap ((mid:Int)+m)=n:=by rw[show (mid:Int)+m=n by omega];exact zas (by omega) (by omega)
  have w3:IntKind.i64.wrap ((n:Int) - 1)=p:=by rw[show (n:Int) - 1=p by omega];exact zas (by omega) (by omega)
  by_cases hc:mid<m
  · obtain ⟨s0,hs0⟩:∃ s0,s0+b=n:=⟨n - b,by omega⟩
    have w4:IntKind.i64.wrap ((n:Int) - b)=s0:=by rw[show (n:Int) - b=s0 by omega];exact zas (by omega) (by omega)
    have hend:=zhm C hC call cf d hK hS hR H q N a m mid n p b s0 mid P A B S hq hN0 hN ha hm hb hmid hn hp (.inr hs0) (.inl rfl) (by omega) (by omega) (Nat.le_refl _) (by omega) (by omega) hd (by omega) hA hB hs h10
    have hc':(mid:Int)<m:=by omega
    unfold af104 Zq Zm Zo Zd Ze Zc Zt Zn at hend
    simp only[atP] at hend
    have HE:=hideP hend
    generalize a+b=s at *
    clear hend hK hS hR hq hN0 ha hm hb hd hA hB hs h10 hlen hmid hn hp hs0 hA2 hB2
    unfold af104 Zq Zm Zo Zd Ze Zc Zt Zn
    simp only[zipI] at *
    (repeat (first|(with_reducible refine HE.out _ ?_ ?_ ?_ ?_ ?_ ?_ ?_ ?_ ?_ ?_<;>simp[zar])|((with_reducible apply zad);(focus ((with_reducible apply zap);(focus rfl);(focus rfl);(focus ((conv=>lhs;simp[*,List.getElem?_append_right,List.set_append_right,List.getElem?_cons_zero,List.getElem?_append_left,List.set_append_left,-getElem?_pos,Nat.testBit_eq_decide_div_mod_eq])<;>exact rfl));(focus rfl);(focus rfl)));simp only[addFl])|(with_reducible apply zad;(focus ((conv=>lhs;simp[*,List.getElem?_append_right,List.set_append_right,List.getElem?_cons_zero,List.getElem?_append_left,List.set_append_left,-getElem?_pos,Nat.testBit_eq_decide_div_mod_eq])<;>exact rfl));simp only[addFl])|((with_reducible first|apply zai|apply zak|apply zah|apply zaf|apply zac|apply zaj|apply zag|apply zal|(apply zae;· simp[*,zaa])|(apply zab;· simp[*,zaa]));try simp only[Then,Ops])|simp only[Nat.reduceEqDiff,reduceIte,OutB,Then]))
  · have hend:=zhm C hC call cf d hK hS hR H q N a m mid n p b a m P A B S hq hN0 hN ha hm hb hmid hn hp (.inl rfl) (.inr rfl) (by omega) (by omega) (by omega) (Nat.le_refl _) (by omega) hd (by omega) hA hB hs h10
    have hc':¬ ((mid:Int)<m):=by omega
    unfold af104 Zq Zm Zo Zd Ze Zc Zt Zn at hend
    simp only[atP] at hend
    have HE:=hideP hend
    generalize a+b=s at *
    clear hend hK hS hR hq hN0 ha hm hb hd hA hB hs h10 hlen hmid hn hp hA2 hB2
    unfold af104 Zq Zm Zo Zd Ze Zc Zt Zn
    simp only[zipI] at *
    (repeat (first|(with_reducible refine HE.out _ ?_ ?_ ?_ ?_ ?_ ?_ ?_ ?_ ?_ ?_<;>simp[zar])|((with_reducible apply zad);(focus ((with_reducible apply zap);(focus rfl);(focus rfl);(focus ((conv=>lhs;simp[*,List.getElem?_append_right,List.set_append_right,List.getElem?_cons_zero,List.getElem?_append_left,List.set_append_left,-getElem?_pos,Nat.testBit_eq_decide_div_mod_eq])<;>exact rfl));(focus rfl);(focus rfl)));simp only[addFl])|(with_reducible apply zad;(focus ((conv=>lhs;simp[*,List.getElem?_append_right,List.set_append_right,List.getElem?_cons_zero,List.getElem?_append_left,List.set_append_left,-getElem?_pos,Nat.testBit_eq_decide_div_mod_eq])<;>exact rfl));simp only[addFl])|((with_reducible first|apply zai|apply zak|apply zah|apply zaf|apply zac|apply zaj|apply zag|apply zal|(apply zae;· simp[*,zaa])|(apply zab;· simp[*,zaa]));try simp only[Then,Ops])|simp only[Nat.reduceEqDiff,reduceIte,OutB,Then]))
theorem zvh (call:CallF)(cf:Nat):SymC call cf 0:=by
  intro H q N a m b P A B S _ _ _ _ _ _ hA hB hd
  have h1:=List.length_pos_iff.2 hA
  have h2:=List.length_pos_iff.2 hB
  simp only[Nat.pow_zero] at hd
  omega
theorem zvj {C:Cfg}{n0 cf d:Nat}(hC:C.calm=true)(h0:Has C 104 af104)(hK:CmpC (Ev.call C n0) cf)(hS:SymC (Ev.call C n0) cf d)(hR:RotC (Ev.call C n0)):SymC (Ev.call C (n0+1)) cf (d+1):=by
  intro H q N a m b P A B S hq hN0 hN ha hm hb hA0 hB0 hd hA hB hs h1 h2
  have hA1:=List.length_pos_iff.2 hA0
  have hB1:=List.length_pos_iff.2 hB0
  have hw:Does (ev C (Ev.call C n0) H.length none af104.body { tm:=tmA af104.ntmps (zipI 0 [.sl q 0 N 1,.int .i64 a,.int .i64 m,.int .i64 b,.fn (.func cf) [] []] []),df:=[],hp:=H,tc:=[] })
      (Ends C H.length af104.res (SymP H q P A B S)):=by
    by_cases e1:A.length=1
    · obtain ⟨x,rfl⟩:=List.length_eq_one_iff.1 e1
      exact zxq C hC _ cf hK H q N a m b P B S x hq hN0 hN ha (by simpa using hm) hb hB (fun y hy=>hs x (by simp) y hy) ⟨h1 x (by simp),h2⟩
    · by_cases e2:B.length=1
      · obtain ⟨y,rfl⟩:=List.length_eq_one_iff.1 e2
        exact zvi C hC _ cf hK H q N a m b P A S y hq hN0 hN ha hm (by simpa using hb) e1 hA (fun z hz=>hs z hz y (by simp)) ⟨h2 y (by simp),h1⟩
      · exact zxr C hC _ cf d hK hS hR H q N a m b P A B S hq hN0 hN ha hm hb (by omega) (by omega) hd hA hB hs (fun x hx=>by rcases hx with hx|hx;exact h1 x hx;exact h2 x hx)
  obtain ⟨v,hp,tc,G,c1,⟨rfl,L,k2,k3,k4⟩,c3,c4,c5⟩:=zbo (first:=[]) (captured:=[]) (args:=[.sl q 0 N 1,.int .i64 a,.int .i64 m,.int .i64 b,.fn (.func cf) [] []]) (H:=H) hC h0.ext h0.exth h0.fns h0.whole (le' rfl) hw
  refine ⟨tc,L,?_,k2.2.1,k2.2.2,k3,k4⟩
  rw[c1,zgc hq k2 c3 (fun ht=>(c4 (.inr ht)).2) (fun ht=>c5 rfl ht)]
end K
end Ev
end Go.Proofs.Ytlcjlcllbgjplaa

/- slices.SortStableFunc, gone through: all. -/
namespace Go.Proofs.Ytlcjlcllbgjplaa
open Go
namespace Srt2
open Clm (ltS sizeN)
inductive Bl (bs:Nat):List Nat→List Nat→Prop
  |last (l a:List Nat):l.length≤bs→Sorted l→l.Perm a→Bl bs l a
  |more (l1 a1 l a:List Nat):l1.length=bs→Sorted l1→l1.Perm a1→Bl bs l a→Bl bs (l1++l) (a1++a)
theorem Bl.len {bs:Nat}{l a:List Nat}(h:Bl bs l a):l.length=a.length:=by
  induction h with
  |last l a h1 h2 h3=>exact h3.length_eq
  |more l1 a1 l a h1 h2 h3 _ ih=>rw[List.length_append,List.length_append,h3.length_eq,ih]
theorem Bl.one {bs:Nat}{l a:List Nat}(h:Bl bs l a)(hl:bs≤l.length):∃ l1 a1 l' a',l=l1++l'∧a=a1++a'∧l1.length=bs∧Sorted l1∧l1.Perm a1∧Bl bs l' a':=by
  cases h with
  |last _ _ h1 h2 h3=>exact ⟨l,a,[],[],by simp,by simp,by omega,h2,h3,.last [] [] (by simp) List.Pairwise.nil (List.Perm.refl _)⟩
  |more l1 a1 l a h1 h2 h3 h4=>exact ⟨l1,a1,l,a,rfl,rfl,h1,h2,h3,h4⟩
theorem Bl.end {bs:Nat}{l a:List Nat}(h:Bl bs l a)(hl:l.length≤bs):Sorted l∧l.Perm a:=by
  cases h with
  |last _ _ h1 h2 h3=>exact ⟨h2,h3⟩
  |more l1 a1 l a h1 h2 h3 h4=>
    have h5:l=[]:=by
      cases l with
      |nil=>rfl
      |cons x t=>simp only[List.length_append,List.length_cons] at hl;omega
    have h6:=h4.len
    subst h5
    have h7:a=[]:=List.eq_nil_of_length_eq_zero (by simpa using h6.symm)
    subst h7
    simp only[List.append_nil]
    exact ⟨h2,h3⟩
theorem sep_inc {aF a1 a2 a:List Nat}(h:Inc (aF++(a1++(a2++a)))){l1 l2:List Nat}(h1:l1.Perm a1)(h2:l2.Perm a2):Sep l1 l2:=by
  intro x hx y hy
  have h3:=(List.pairwise_append.1 (List.pairwise_append.1 h).2.1).2.2
  exact h3 x (h1.mem_iff.1 hx) y (List.mem_append.2 (.inl (h2.mem_iff.1 hy)))
end Srt2
namespace Ev
namespace K
attribute [local simp] ev1 wantG spineK spine float xnew xval xeff zaa zat zbb zax zaw addFl cellsOf pickC alive slLen slFt binI maxA maxK minA minK aeqK aeqS AV.cells spA zau fillA setAt bitsI nat_nn zbd AV.plain apart
set_option maxRecDepth 100000
set_option maxHeartbeats 4000000
def st0 (q N cf bs a b:Nat)(G:List AB)(tc:List Nat):St:={ tm:=tmA 63 [(8,.int .i64 b),(7,.int .i64 a),(6,.int .i64 bs),(2,.fn (.func cf) [] []),(1,.int .i64 N),(0,.sl q 0 N 1)],df:=[],hp:=G,tc:=tc }
def st2 (q N cf bs:Nat)(G:List AB)(tc:List Nat):St:={ tm:=tmA 63 [(6,.int .i64 bs),(2,.fn (.func cf) [] []),(1,.int .i64 N),(0,.sl q 0 N 1)],df:=[],hp:=G,tc:=tc }
theorem zjm (C:Cfg)(hC:C.calm=true)(call:CallF)(cf:Nat)(hS:SymC call cf 10)(H:List AB)(q N bs:Nat)(A0:List Nat)(hq:HB H q (.cells (us A0)))(hN0:A0.length=N)(hN:N≤1024)(hI:Srt2.Inc A0)(h10:∀ x∈A0,x<1024)(hbs:0<bs)(hlt:bs<N)(l:List Nat)(G:List AB)(tc:List Nat)(hG:InB H q A0 l G tc)(hl:Srt2.Bl bs l A0):
    Does (ev C call H.length none (atP [1,1,1,1,0,0] af92.body) (st2 q N cf bs G tc))
      (fun e st=>e=.normal∧∃ l' G' tc',InB H q A0 l' G' tc'∧Srt2.Bl (2 * bs) l' A0∧{ st with tm:=keepT [0,1,2,6] st.tm }=st2 q N cf (2 * bs) G' tc'):=by
  have hll:=hl.len
  have hlt':(bs:Int)<N:=by omega
  obtain ⟨b2,hb2⟩:∃ b2,2 * bs=b2:=⟨_,rfl⟩
  have w1:IntKind.i64.wrap (2 * (bs:Int))=b2:=by rw[show 2 * (bs:Int)=b2 by omega];exact zas (by omega) (by omega)
  have w2:IntKind.i64.wrap ((bs:Int) * 2)=b2:=by rw[show (bs:Int) * 2=b2 by omega];exact zas (by omega) (by omega)
  rw[hb2]
  have HX:=hideP (And.intro hq (And.intro hN0 (And.intro hI (And.intro h10 (And.intro hbs (And.intro hlt (And.intro hG (And.intro hl (And.intro hll (And.intro hb2 hS))))))))))
  clear hq hN0 hI h10 hbs hlt hG hl hll hb2 hS
  unfold af92 Zq Zm Zo Zc Zt Zn st2
  simp only[atP]
  (repeat (first|((with_reducible apply zad);(focus ((with_reducible apply zap);(focus rfl);(focus rfl);(focus ((conv=>lhs;simp[*,List.getElem?_append_right,List.set_append_right,List.getElem?_cons_zero,List.getElem?_append_left,List.set_append_left,-getElem?_pos,Nat.testBit_eq_decide_div_mod_eq])<;>exact rfl));(focus rfl);(focus rfl)));simp only[addFl])|(with_reducible apply zad;(focus ((conv=>lhs;simp[*,List.getElem?_append_right,List.set_append_right,List.getElem?_cons_zero,List.getElem?_append_left,List.set_append_left,-getElem?_pos,Nat.testBit_eq_decide_div_mod_eq])<;>exact rfl));simp only[addFl])|((with_reducible first|apply zai|apply zak|apply zah|apply zaf|apply zac|apply zaj|apply zag|apply zal|(apply zae;· simp[*,zaa])|(apply zab;· simp[*,zaa]));try simp only[Then,Ops])|simp only[Nat.reduceEqDiff,reduceIte,OutB,Then]))
  with_reducible refine zcd hC N (by unfold fuelL;omega) (fun k st=>∃ F R aF aR G tc,k=R.length∧A0=aF++aR∧F.length=aF.length∧Srt2.Bl bs R aR∧(∀ r a,Srt2.Bl b2 r a→Srt2.Bl b2 (F++r) (aF++a))∧InB H q A0 (F++R) G tc∧st=st0 q N cf bs F.length (F.length+b2) G tc) ?_ ?_
  · obtain ⟨hq,hN0,hI,h10,hbs,hlt,hG,hl,hll,hb2,hS⟩:=HX.out
    refine ⟨[],l,[],A0,G,tc,by omega,rfl,rfl,hl,fun _ _ h=>h,hG,?_⟩
    unfold st0
    (refine st_is ?_ ?_ ?_ ?_;(focus (simp[zao,zar]));(focus rfl);(focus (first|rfl|(simp;done)|(simp[*];done)|(simp;rfl)|(simp[*];omega)|(simp;omega)));(focus (first|rfl|simp)))
  · rintro k st ⟨F,R,aF,aR,G,tc,hk,hA,hFl,hR,hF,hG,rfl⟩
    obtain ⟨hq,hN0,hI,h10,hbs,hlt,-,-,-,hb2,hS⟩:=HX.out
    have hGl:=hG.length
    have hHG:=hG.hb hq
    have hRl:=hR.len
    have hAl:aF.length+aR.length=N:=by rw[← hN0,hA,List.length_append]
    have h10':∀ x,x∈aR→x<1024:=fun x hx=>h10 x (by rw[hA];simp[hx])
    by_cases hbig:b2≤R.length
    · obtain ⟨l1,a1,R1,aR1,rfl,rfl,e1,e2,e3,e4⟩:=hR.one (by omega)
      obtain ⟨l2,a2,R2,aR2,rfl,rfl,e5,e6,e7,e8⟩:=e4.one (by simp only[List.length_append] at hbig;omega)
      obtain ⟨t,L,c1,c2,c3,c4,c5⟩:=hS G q N F.length (F.length+bs) (F.length+b2) F l1 l2 R2 hHG (by simp only[List.length_append] at hRl hAl ⊢;omega) (by omega) rfl (by omega) (by omega) (fun h=>by rw[h] at e1;simp at e1;omega) (fun h=>by rw[h] at e5;simp at e5;omega) (by simp only[List.length_append] at hRl hAl;omega) e2 e6 (Srt2.sep_inc (by rw[← hA];exact hI) e3 e7) (fun x hx=>h10' x (by simp[e3.mem_iff.1 hx])) (fun x hx=>h10' x (by simp[e7.mem_iff.1 hx]))
      have hLl:=c5.length_eq
      have hfin:∃ q',q'<k∧∃ F' R' aF' aR' G' tc',q'=R'.length∧A0=aF'++aR'∧F'.length=aF'.length∧Srt2.Bl bs R' aR'∧(∀ r a,Srt2.Bl b2 r a→Srt2.Bl b2 (F'++r) (aF'++a))∧InB H q A0 (F'++R') G' tc'∧F'.length=F.length+b2∧G'=G.set q (.cells (us (F++(L++R2))))∧tc'=t.filter (fun x=>decide (x<H.length))++tc:=by
        refine ⟨R2.length,by rw[hk];simp only[List.length_append];omega,F++L,R2,aF++(a1++a2),aR2,_,_,rfl,by rw[hA];simp,by simp only[List.length_append] at hLl ⊢;rw[hFl,← e3.length_eq,← e7.length_eq];omega,e8,fun r a h=>?_,by rw[List.append_assoc];exact hG.step hq.lt c2 c3,by simp only[List.length_append] at hLl ⊢;omega,rfl,rfl⟩
        have:=hF _ _ (.more L (a1++a2) r a (by simp only[List.length_append] at hLl;omega) c4 (c5.trans (e3.append e7)) h)
        simpa using this
      have HF:=hideP hfin
      obtain ⟨a,ha⟩:∃ a,F.length=a:=⟨_,rfl⟩
      obtain ⟨m,hm⟩:∃ m,a+bs=m:=⟨_,rfl⟩
      obtain ⟨b,hb⟩:∃ b,a+b2=b:=⟨_,rfl⟩
      rw[ha,hb] at HF
      rw[ha,hm,hb] at c1
      rw[ha,hb]
      have hFlen:a+(l1++(l2++R2)).length=N:=by rw[← ha,hFl,hRl];exact hAl
      have hbN:b≤N:=by omega
      have hbN':(b:Int)≤N:=by omega
      have w3:IntKind.i64.wrap ((a:Int)+bs)=m:=by rw[show (a:Int)+bs=m by omega];exact zas (by omega) (by omega)
      have w4:IntKind.i64.wrap ((b:Int)+b2)=((b+b2:Nat):Int):=by rw[show ((b+b2:Nat):Int)=(b:Int)+b2 by omega];exact zas (by omega) (by omega)
      clear hfin hS hq hN0 hI h10 hbs hlt hb2 hGl hHG hRl hAl h10' hbig e1 e2 e3 e4 e5 e6 e7 e8 c2 c3 c4 c5 hLl hA hFl hR hF hG hk ha hm hb hFlen
      unfold st0
      (repeat (first|((with_reducible apply zad);(focus ((with_reducible apply zap);(focus rfl);(focus rfl);(focus ((conv=>lhs;simp[*,List.getElem?_append_right,List.set_append_right,List.getElem?_cons_zero,List.getElem?_append_left,List.set_append_left,-getElem?_pos,Nat.testBit_eq_decide_div_mod_eq])<;>exact rfl));(focus rfl);(focus rfl)));simp only[addFl])|(with_reducible apply zad;(focus ((conv=>lhs;simp[*,List.getElem?_append_right,List.set_append_right,List.getElem?_cons_zero,List.getElem?_append_left,List.set_append_left,-getElem?_pos,Nat.testBit_eq_decide_div_mod_eq])<;>exact rfl));simp only[addFl])|((with_reducible first|apply zai|apply zak|apply zah|apply zaf|apply zac|apply zaj|apply zag|apply zal|(apply zae;· simp[*,zaa])|(apply zab;· simp[*,zaa]));try simp only[Then,Ops,OutB])|simp only[Nat.reduceEqDiff,reduceIte,OutB,Then]))
      obtain ⟨q',k1,F',R',aF',aR',G',tc',k2,k3,k4,k5,k6,k7,k8,rfl,rfl⟩:=HF.out
      refine ⟨q',k1,F',R',aF',aR',_,_,k2,k3,k4,k5,k6,k7,?_⟩
      rw[k8]
      (refine st_is ?_ ?_ ?_ ?_;(focus (simp[zao,zar]));(focus rfl);(focus (first|rfl|(simp;done)|(simp[*];done)|(simp;rfl)|(simp[*];omega)|(simp;omega)));(focus (first|rfl|simp)))
    · have hRn:F.length+R.length=N:=by omega
      have key:∃ L G' tc',InB H q A0 (F++L) G' tc'∧Srt2.Bl b2 (F++L) A0∧((¬ F.length+bs<N∧G'=G∧tc'=tc)∨(F.length+bs<N∧∃ t,call (.fn (.func 104) [] []) [.sl q 0 N 1,.int .i64 F.length,.int .i64 ((F.length+bs:Nat):Int),.int .i64 N,.fn (.func cf) [] []] G=some (.ret (.tup []),G',t)∧tc'=t.filter (fun x=>decide (x<H.length))++tc)):=by
        by_cases hm:F.length+bs<N
        · obtain ⟨l1,a1,R1,aR1,rfl,rfl,e1,e2,e3,e4⟩:=hR.one (by omega)
          have e5:=e4.end (by simp only[List.length_append] at hbig;omega)
          obtain ⟨t,L,c1,c2,c3,c4,c5⟩:=hS G q N F.length (F.length+bs) N F l1 R1 [] (by rw[List.append_nil];exact hHG) (by simp only[List.length_append,List.length_nil] at hRn ⊢;omega) (by omega) rfl (by omega) (by simp only[List.length_append] at hRn;omega) (fun h=>by rw[h] at e1;simp at e1;omega) (fun h=>by rw[h] at hRn;simp at hRn;omega) (by simp only[List.length_append] at hRn;omega) e2 e5.1 (Srt2.sep_inc (a:=[]) (by rw[List.append_nil,← hA];exact hI) e3 e5.2) (fun x hx=>h10' x (by simp[e3.mem_iff.1 hx])) (fun x hx=>h10' x (by simp[e5.2.mem_iff.1 hx]))
          rw[List.append_nil] at c1 c3
          rw[List.append_nil] at c3
          have hLl:=c5.length_eq
          refine ⟨L,_,_,hG.step hq.lt c2 c3,?_,.inr ⟨hm,t,c1,rfl⟩⟩
          rw[hA]
          exact hF _ _ (.last _ _ (by simp only[List.length_append] at hLl hbig;omega) c4 (c5.trans (e3.append e5.2)))
        · obtain ⟨e1,e2⟩:=hR.end (by omega)
          refine ⟨R,G,tc,hG,?_,.inl ⟨hm,rfl,rfl⟩⟩
          rw[hA]
          exact hF _ _ (.last _ _ (by omega) e1 e2)
      obtain ⟨L,G',tc',d1,d2,d3⟩:=key
      have HF:=hideP (And.intro d1 d2)
      obtain ⟨a,ha⟩:∃ a,F.length=a:=⟨_,rfl⟩
      obtain ⟨m,hm⟩:∃ m,a+bs=m:=⟨_,rfl⟩
      obtain ⟨b,hb⟩:∃ b,a+b2=b:=⟨_,rfl⟩
      rw[ha,hm] at d3
      rw[ha,hb]
      have hbN:¬ b≤N:=by omega
      have hbN':¬ (b:Int)≤N:=by omega
      have w3:IntKind.i64.wrap ((a:Int)+bs)=m:=by rw[show (a:Int)+bs=m by omega];exact zas (by omega) (by omega)
      clear hS hq hN0 hI h10 hbs hlt hb2 hGl hHG hRl hAl h10' hbig hA hFl hR hF hG hk ha hm hb hRn d1 d2
      unfold st0
      rcases d3 with ⟨d3,rfl,rfl⟩|⟨d3,t,d4,rfl⟩
      · (repeat (first|((with_reducible apply zad);(focus ((with_reducible apply zap);(focus rfl);(focus rfl);(focus ((conv=>lhs;simp[*,List.getElem?_append_right,List.set_append_right,List.getElem?_cons_zero,List.getElem?_append_left,List.set_append_left,-getElem?_pos,Nat.testBit_eq_decide_div_mod_eq])<;>exact rfl));(focus rfl);(focus rfl)));simp only[addFl])|(with_reducible apply zad;(focus ((conv=>lhs;simp[*,List.getElem?_append_right,List.set_append_right,List.getElem?_cons_zero,List.getElem?_append_left,List.set_append_left,-getElem?_pos,Nat.testBit_eq_decide_div_mod_eq])<;>exact rfl));simp only[addFl])|((with_reducible first|apply zai|apply zak|apply zah|apply zaf|apply zac|apply zaj|apply zag|apply zal|(apply zae;· simp[*,zaa])|(apply zab;· simp[*,zaa]));try simp only[Then,Ops,OutB,reduceIte])|simp only[Nat.reduceEqDiff,reduceIte,OutB,Then]))
        refine ⟨by first|rfl|trivial,_,_,_,HF.out.1,HF.out.2,?_⟩
        (refine st_is ?_ ?_ ?_ ?_;(focus (simp[zao,zar]));(focus rfl);(focus (first|rfl|(simp;done)|(simp[*];done)|(simp;rfl)|(simp[*];omega)|(simp;omega)));(focus (first|rfl|simp)))
      · (repeat (first|((with_reducible apply zad);(focus ((with_reducible apply zap);(focus rfl);(focus rfl);(focus ((conv=>lhs;simp[*,List.getElem?_append_right,List.set_append_right,List.getElem?_cons_zero,List.getElem?_append_left,List.set_append_left,-getElem?_pos,Nat.testBit_eq_decide_div_mod_eq])<;>exact rfl));(focus rfl);(focus rfl)));simp only[addFl])|(with_reducible apply zad;(focus ((conv=>lhs;simp[*,List.getElem?_append_right,List.set_append_right,List.getElem?_cons_zero,List.getElem?_append_left,List.set_append_left,-getElem?_pos,Nat.testBit_eq_decide_div_mod_eq])<;>exact rfl));simp only[addFl])|((with_reducible first|apply zai|apply zak|apply zah|apply zaf|apply zac|apply zaj|apply zag|apply zal|(apply zae;· simp[*,zaa])|(apply zab;· simp[*,zaa]));try simp only[Then,Ops,OutB,reduceIte])|simp only[Nat.reduceEqDiff,reduceIte,OutB,Then]))
        refine ⟨by first|rfl|trivial,_,_,_,HF.out.1,HF.out.2,?_⟩
        (refine st_is ?_ ?_ ?_ ?_;(focus (simp[zao,zar]));(focus rfl);(focus (first|rfl|(simp;done)|(simp[*];done)|(simp;rfl)|(simp[*];omega)|(simp;omega)));(focus (first|rfl|simp)))
def StaP (H:List AB)(q:Nat)(A0:List Nat)(v:AV)(hp:List AB)(tc:List Nat):Prop:=v=.tup []∧∃ L,InB H q A0 L hp tc∧Srt2.Sorted L∧L.Perm A0
theorem zli (C:Cfg)(hC:C.calm=true)(call:CallF)(cf:Nat)(hS:SymC call cf 10)(H:List AB)(q N:Nat)(A0:List Nat)(hq:HB H q (.cells (us A0)))(hN0:A0.length=N)(hN:N≤1024)(hI:Srt2.Inc A0)(h10:∀ x∈A0,x<1024)(l:List Nat)(G:List AB)(tc:List Nat)(hG:InB H q A0 l G tc)(hl:Srt2.Bl 20 l A0)
    (L:List (Nat × AV)) (L0:lk 63 L 0=.sl q 0 N 1) (L1:lk 63 L 1=.int .i64 N) (L2:lk 63 L 2=.fn (.func cf) [] []) (L6:lk 63 L 6=.int .i64 20):
    Does (ev C call H.length none (atP [1,1,1,1] af92.body) { tm:=tmA 63 L,df:=[],hp:=G,tc:=tc })
      (Ends C H.length af92.res (StaP H q A0)):=by
  have hr:=fun bs hbs hlt l G tc hG hl=>zjm C hC call cf hS H q N bs A0 hq hN0 hN hI h10 hbs hlt l G tc hG hl
  have HX:=hideP (And.intro hq (And.intro hN0 (And.intro hG hl)))
  unfold af92 Zq Zm Zo Zc Zt Zn at hr
  simp only[atP] at hr
  have HR:=hideP hr
  clear hr hq hN0 hI h10 hG hl hS
  unfold af92 Zq Zm Zo Zc Zt Zn
  simp only[atP] at *
  (repeat (first|((with_reducible apply zad);(focus ((with_reducible apply zap);(focus rfl);(focus rfl);(focus ((conv=>lhs;simp[*,List.getElem?_append_right,List.set_append_right,List.getElem?_cons_zero,List.getElem?_append_left,List.set_append_left,-getElem?_pos,Nat.testBit_eq_decide_div_mod_eq])<;>exact rfl));(focus rfl);(focus rfl)));simp only[addFl])|(with_reducible apply zad;(focus ((conv=>lhs;simp[*,List.getElem?_append_right,List.set_append_right,List.getElem?_cons_zero,List.getElem?_append_left,List.set_append_left,-getElem?_pos,Nat.testBit_eq_decide_div_mod_eq])<;>exact rfl));simp only[addFl])|((with_reducible first|apply zai|apply zak|apply zah|apply zaf|apply zac|apply zaj|apply zag|apply zal|(apply zae;· simp[*,zaa])|(apply zab;· simp[*,zaa]));try simp only[Then,Ops,OutB,reduceIte])|simp only[Nat.reduceEqDiff,reduceIte,OutB,Then]))
  with_reducible refine zcd hC (N - 20) (by unfold fuelL;omega) (fun k st=>∃ bs l G tc,k=N - bs∧0<bs∧InB H q A0 l G tc∧Srt2.Bl bs l A0∧st=st2 q N cf bs G tc) ?_ ?_
  · obtain ⟨hq,hN0,hG,hl⟩:=HX.out
    refine ⟨20,l,G,tc,rfl,by omega,hG,hl,?_⟩
    unfold st2
    exact st_eq (by simp[*,zao]) rfl (by simp) (by simp)
  · rintro k st ⟨bs,l,G,tc,hk,hb,hG,hl,rfl⟩
    by_cases hlt:bs<N
    · refine Does.mono (HR.out bs hb hlt l G tc hG hl) ?_
      rintro e st ⟨rfl,l',G',tc',f1,f2,f3⟩
      exact ⟨N - 2 * bs,by omega,2 * bs,l',G',tc',rfl,by omega,f1,f2,f3⟩
    · obtain ⟨hq,hN0,-,-⟩:=HX.out
      have hll:=hl.len
      have hfin:StaP H q A0 (.tup []) G tc:=⟨rfl,l,hG,(hl.end (by omega)).1,(hl.end (by omega)).2⟩
      have hgl:H.length≤G.length:=by have:=hG.length;omega
      have HF:=hideP hfin
      have hlt':¬ (bs:Int)<N:=by omega
      clear hfin hG hl hll hq hN0 hk hb L0 L1 L2 L6
      unfold st2
      (repeat (first|((with_reducible apply zad);(focus ((with_reducible apply zap);(focus rfl);(focus rfl);(focus ((conv=>lhs;simp[*,List.getElem?_append_right,List.set_append_right,List.getElem?_cons_zero,List.getElem?_append_left,List.set_append_left,-getElem?_pos,Nat.testBit_eq_decide_div_mod_eq])<;>exact rfl));(focus rfl);(focus rfl)));simp only[addFl])|(with_reducible apply zad;(focus ((conv=>lhs;simp[*,List.getElem?_append_right,List.set_append_right,List.getElem?_cons_zero,List.getElem?_append_left,List.set_append_left,-getElem?_pos,Nat.testBit_eq_decide_div_mod_eq])<;>exact rfl));simp only[addFl])|((with_reducible first|apply zai|apply zak|apply zah|apply zaf|apply zac|apply zaj|apply zag|apply zal|(apply zae;· simp[*,zaa])|(apply zab;· simp[*,zaa]));try simp only[Then,Ops,OutB,reduceIte])|simp only[Nat.reduceEqDiff,reduceIte,OutB,Then]))
      exact zan (v:=.tup []) (.inr rfl) rfl hgl (by simp only[resL];simp[*,resV]) HF.out
theorem zok (C:Cfg)(hC:C.calm=true)(call:CallF)(cf:Nat)(hS:SymC call cf 10)(hIn:InsC call cf)(H:List AB)(q N:Nat)(A0:List Nat)(hq:HB H q (.cells (us A0)))(hN0:A0.length=N)(hN:N≤1024)(hI:Srt2.Inc A0)(h10:∀ x∈A0,x<1024):
    Does (ev C call H.length none af92.body { tm:=tmA af92.ntmps (zipI 0 [.sl q 0 N 1,.int .i64 N,.fn (.func cf) [] []] []),df:=[],hp:=H,tc:=[] })
      (Ends C H.length af92.res (StaP H q A0)):=by
  have hr:=fun l G tc hG hl=>zli C hC call cf hS H q N A0 hq hN0 hN hI h10 l G tc hG hl
  have HX:=hideP (And.intro hq (And.intro hN0 (And.intro hI (And.intro h10 hIn))))
  unfold af92 Zq Zm Zo Zc Zt Zn at hr
  simp only[atP] at hr
  have HR:=hideP hr
  clear hr hq hN0 hI h10 hS hIn
  unfold af92 Zq Zm Zo Zc Zt Zn
  simp only[zipI] at *
  (repeat (first|((with_reducible apply zad);(focus ((with_reducible apply zap);(focus rfl);(focus rfl);(focus ((conv=>lhs;simp[*,List.getElem?_append_right,List.set_append_right,List.getElem?_cons_zero,List.getElem?_append_left,List.set_append_left,-getElem?_pos,Nat.testBit_eq_decide_div_mod_eq])<;>exact rfl));(focus rfl);(focus rfl)));simp only[addFl])|(with_reducible apply zad;(focus ((conv=>lhs;simp[*,List.getElem?_append_right,List.set_append_right,List.getElem?_cons_zero,List.getElem?_append_left,List.set_append_left,-getElem?_pos,Nat.testBit_eq_decide_div_mod_eq])<;>exact rfl));simp only[addFl])|((with_reducible first|apply zai|apply zak|apply zah|apply zaf|apply zac|apply zaj|apply zag|apply zal|(apply zae;· simp[*,zaa])|(apply zab;· simp[*,zaa]));try simp only[Then,Ops])|simp only[Nat.reduceEqDiff,reduceIte,OutB,Then]))
  with_reducible refine zcd hC N (by unfold fuelL;omega) (fun k st=>∃ F R aF G tc,k=R.length∧A0=aF++R∧F.length=aF.length∧(∀ r a,Srt2.Bl 20 r a→Srt2.Bl 20 (F++r) (aF++a))∧InB H q A0 (F++R) G tc∧st=st0 q N cf 20 F.length (F.length+20) G tc) ?_ ?_
  · obtain ⟨hq,hN0,hI,h10,hIn⟩:=HX.out
    refine ⟨[],A0,[],H,[],hN0.symm,rfl,rfl,fun _ _ h=>h,⟨hq.same.symm,by simp,fun _=>rfl⟩,?_⟩
    unfold st0
    (refine st_is ?_ ?_ ?_ ?_;(focus (simp[zao,zar]));(focus rfl);(focus (first|rfl|(simp;done)|(simp[*];done)|(simp;rfl)|(simp[*];omega)|(simp;omega)));(focus (first|rfl|simp)))
  · rintro k st ⟨F,R,aF,G,tc,hk,hA,hFl,hF,hG,rfl⟩
    obtain ⟨hq,hN0,hI,h10,hIn⟩:=HX.out
    have hGl:=hG.length
    have hHG:=hG.hb hq
    have hAl:aF.length+R.length=N:=by rw[← hN0,hA,List.length_append]
    have h10':∀ x,x∈R→x<1024:=fun x hx=>h10 x (by rw[hA];simp[hx])
    have hRI:Srt2.Inc R:=by rw[hA] at hI;exact (List.pairwise_append.1 hI).2.1
    by_cases hbig:20≤R.length
    · obtain ⟨R1,R2,rfl,e1,e2⟩:=Srt2.split_at hbig
      obtain ⟨t,L,c1,c2,c3,c4,c5⟩:=hIn G q N F.length (F.length+20) F R1 R2 hHG (by simp only[List.length_append] at hAl ⊢;omega) (by omega) rfl (by omega) (List.pairwise_append.1 hRI).1 (fun x hx=>h10' x (by simp[hx]))
      have hLl:=c5.length_eq
      have hfin:∃ q',q'<k∧∃ F' R' aF' G' tc',q'=R'.length∧A0=aF'++R'∧F'.length=aF'.length∧(∀ r a,Srt2.Bl 20 r a→Srt2.Bl 20 (F'++r) (aF'++a))∧InB H q A0 (F'++R') G' tc'∧F'.length=F.length+20∧G'=G.set q (.cells (us (F++(L++R2))))∧tc'=t.filter (fun x=>decide (x<H.length))++tc:=by
        refine ⟨R2.length,by rw[hk];simp only[List.length_append];omega,F++L,R2,aF++R1,_,_,rfl,by rw[hA];simp,by simp only[List.length_append];omega,fun r a h=>?_,by rw[List.append_assoc];exact hG.step hq.lt c2 c3,by simp only[List.length_append];omega,rfl,rfl⟩
        have:=hF _ _ (.more L R1 r a (by omega) c4 c5 h)
        simpa using this
      have HF:=hideP hfin
      obtain ⟨a,ha⟩:∃ a,F.length=a:=⟨_,rfl⟩
      obtain ⟨b,hb⟩:∃ b,a+20=b:=⟨_,rfl⟩
      rw[ha,hb] at HF c1
      rw[ha,hb]
      have hbN:b≤N:=by simp only[List.length_append] at hAl;omega
      have hbN':(b:Int)≤N:=by omega
      have w4:IntKind.i64.wrap ((b:Int)+20)=((b+20:Nat):Int):=by rw[show ((b+20:Nat):Int)=(b:Int)+20 by omega];exact zas (by omega) (by omega)
      clear hfin hq hN0 hI h10 hGl hHG hAl h10' hbig e1 e2 c2 c3 c4 c5 hLl hA hFl hF hG hk ha hb hRI hIn
      unfold st0
      (repeat (first|((with_reducible apply zad);(focus ((with_reducible apply zap);(focus rfl);(focus rfl);(focus ((conv=>lhs;simp[*,List.getElem?_append_right,List.set_append_right,List.getElem?_cons_zero,List.getElem?_append_left,List.set_append_left,-getElem?_pos,Nat.testBit_eq_decide_div_mod_eq])<;>exact rfl));(focus rfl);(focus rfl)));simp only[addFl])|(with_reducible apply zad;(focus ((conv=>lhs;simp[*,List.getElem?_append_right,List.set_append_right,List.getElem?_cons_zero,List.getElem?_append_left,List.set_append_left,-getElem?_pos,Nat.testBit_eq_decide_div_mod_eq])<;>exact rfl));simp only[addFl])|((with_reducible first|apply zai|apply zak|apply zah|apply zaf|apply zac|apply zaj|apply zag|apply zal|(apply zae;· simp[*,zaa])|(apply zab;· simp[*,zaa]));try simp only[Then,Ops,OutB])|simp only[Nat.reduceEqDiff,reduceIte,OutB,Then]))
      obtain ⟨q',k1,F',R',aF',G',tc',k2,k3,k4,k5,k6,k7,rfl,rfl⟩:=HF.out
      refine ⟨q',k1,F',R',aF',_,_,k2,k3,k4,k5,k6,?_⟩
      rw[k7]
      (refine st_is ?_ ?_ ?_ ?_;(focus (simp[zao,zar]));(focus rfl);(focus (first|rfl|(simp;done)|(simp[*];done)|(simp;rfl)|(simp[*];omega)|(simp;omega)));(focus (first|rfl|simp)))
    · obtain ⟨t,L,c1,c2,c3,c4,c5⟩:=hIn G q N F.length N F R [] (by rw[List.append_nil];exact hHG) (by simp only[List.length_append,List.length_nil];omega) (by omega) rfl (by omega) hRI h10'
      rw[List.append_nil] at c1 c3
      rw[List.append_nil] at c3
      have hLl:=c5.length_eq
      have hend:=HR.out (F++L) _ _ (hG.step hq.lt c2 c3) (by rw[hA];exact hF _ _ (.last _ _ (by omega) c4 c5))
      have HE:=hideP hend
      obtain ⟨a,ha⟩:∃ a,F.length=a:=⟨_,rfl⟩
      obtain ⟨b,hb⟩:∃ b,a+20=b:=⟨_,rfl⟩
      rw[ha] at c1
      rw[ha,hb]
      have hbN:¬ b≤N:=by omega
      have hbN':¬ (b:Int)≤N:=by omega
      clear hend hq hN0 hI h10 hGl hHG hAl h10' hbig c2 c3 c4 c5 hLl hA hFl hF hG hk ha hb hRI hIn
      unfold st0
      (repeat (first|(with_reducible refine HE.out _ ?_ ?_ ?_ ?_<;>simp[zar])|((with_reducible apply zad);(focus ((with_reducible apply zap);(focus rfl);(focus rfl);(focus ((conv=>lhs;simp[*,List.getElem?_append_right,List.set_append_right,List.getElem?_cons_zero,List.getElem?_append_left,List.set_append_left,-getElem?_pos,Nat.testBit_eq_decide_div_mod_eq])<;>exact rfl));(focus rfl);(focus rfl)));simp only[addFl])|(with_reducible apply zad;(focus ((conv=>lhs;simp[*,List.getElem?_append_right,List.set_append_right,List.getElem?_cons_zero,List.getElem?_append_left,List.set_append_left,-getElem?_pos,Nat.testBit_eq_decide_div_mod_eq])<;>exact rfl));simp only[addFl])|((with_reducible first|apply zai|apply zak|apply zah|apply zaf|apply zac|apply zaj|apply zag|apply zal|(apply zae;· simp[*,zaa])|(apply zab;· simp[*,zaa]));try simp only[Then,Ops,OutB,reduceIte])|simp only[Nat.reduceEqDiff,reduceIte,OutB,Then]))
def StaC (call:CallF)(f:Nat)(more:List AV→List AV)(cf:Nat):Prop:=∀ (H:List AB) (q N:Nat) (A0:List Nat),HB H q (.cells (us A0))→A0.length=N→N≤1024→Srt2.Inc A0→(∀ x∈A0,x<1024) →
  ∃ tc L,call (.fn (.func f) [] []) (more [.sl q 0 N 1,.int .i64 N,.fn (.func cf) [] []]) H=some (.ret (.tup []),H.set q (.cells (us L)),tc)∧(∀ j∈tc,j=q)∧(tc=[]→L=A0)∧Srt2.Sorted L∧L.Perm A0
theorem zlj {C:Cfg}{n0 cf:Nat}(hC:C.calm=true)(h0:Has C 92 af92)(hS:SymC (Ev.call C n0) cf 10)(hIn:InsC (Ev.call C n0) cf):StaC (Ev.call C (n0+1)) 92 id cf:=by
  intro H q N A0 hq hN0 hN hI h10
  obtain ⟨v,hp,tc,G,c1,⟨rfl,L,h2,h3,h4⟩,c3,c4,c5⟩:=zbo (first:=[]) (captured:=[]) (args:=[.sl q 0 N 1,.int .i64 N,.fn (.func cf) [] []]) (H:=H) hC h0.ext h0.exth h0.fns h0.whole (le' rfl) (zok C hC _ cf hS hIn H q N A0 hq hN0 hN hI h10)
  refine ⟨tc,L,?_,h2.2.1,h2.2.2,h3,h4⟩
  show Ev.call C (n0+1) _ [.sl q 0 N 1,.int .i64 N,.fn (.func cf) [] []] H=_
  rw[c1,zgc hq h2 c3 (fun ht=>(c4 (.inr ht)).2) (fun ht=>c5 rfl ht)]
theorem zvq (C:Cfg)(call:CallF)(cf:Nat)(hS:StaC call 92 id cf)(H:List AB)(q N:Nat)(A0:List Nat)(hq:HB H q (.cells (us A0)))(hN0:A0.length=N)(hN:N≤1024)(hI:Srt2.Inc A0)(h10:∀ x∈A0,x<1024):
    Does (ev C call H.length none af66.body { tm:=tmA af66.ntmps (zipI 0 [.sl q 0 N 1,.fn (.func cf) [] []] []),df:=[],hp:=H,tc:=[] })
      (Ends C H.length af66.res (StaP H q A0)):=by
  obtain ⟨tc,L,c1,c2,c3,c4,c5⟩:=hS H q N A0 hq hN0 hN hI h10
  simp only[id] at c1
  have h0:InB H q A0 A0 H []:=⟨hq.same.symm,by simp,fun _=>rfl⟩
  have hfin:StaP H q A0 (.tup []) (H.set q (.cells (us L))) (tc.filter (fun x=>decide (x<H.length))):=⟨rfl,L,by have:=h0.step (l':=L) hq.lt c2 c3;rw[List.append_nil] at this;exact this,c4,c5⟩
  have HF:=hideP hfin
  obtain ⟨A1,A2,A3⟩:=hq
  clear hfin h0 hS c2 c3 c4 c5 hI h10 hN0
  unfold af66 Zm Zo Zc Zt
  simp only[zipI]
  (repeat (first|((with_reducible apply zad);(focus ((with_reducible apply zap);(focus rfl);(focus rfl);(focus ((conv=>lhs;simp[*,List.getElem?_append_right,List.set_append_right,List.getElem?_cons_zero,List.getElem?_append_left,List.set_append_left,-getElem?_pos,Nat.testBit_eq_decide_div_mod_eq])<;>exact rfl));(focus rfl);(focus rfl)));simp only[addFl])|(with_reducible apply zad;(focus ((conv=>lhs;simp[*,List.getElem?_append_right,List.set_append_right,List.getElem?_cons_zero,List.getElem?_append_left,List.set_append_left,-getElem?_pos,Nat.testBit_eq_decide_div_mod_eq])<;>exact rfl));simp only[addFl])|((with_reducible first|apply zai|apply zak|apply zah|apply zaf|apply zac|apply zaj|apply zag|apply zal|(apply zae;· simp[*,zaa])|(apply zab;· simp[*,zaa]));try simp only[Ops])|simp only[Nat.reduceEqDiff,reduceIte,OutB,Then]))
  exact zan (v:=.tup []) (.inr rfl) rfl (by simp) (by simp only[resL];simp[*,resV]) HF.out
def SortC (call:CallF)(cf:Nat):Prop:=∀ (H:List AB) (q N:Nat) (A0:List Nat),HB H q (.cells (us A0))→A0.length=N→N≤1024→Srt2.Inc A0→(∀ x∈A0,x<1024) →
  ∃ tc L,call (.fn (.func 66) [] []) [.sl q 0 N 1,.fn (.func cf) [] []] H=some (.ret (.tup []),H.set q (.cells (us L)),tc)∧(∀ j∈tc,j=q)∧(tc=[]→L=A0)∧Srt2.Sorted L∧L.Perm A0
theorem zrx {C:Cfg}{n0 cf:Nat}(hC:C.calm=true)(h0:Has C 66 af66)(hS:StaC (Ev.call C n0) 92 id cf):SortC (Ev.call C (n0+1)) cf:=by
  intro H q N A0 hq hN0 hN hI h10
  obtain ⟨v,hp,tc,G,c1,⟨rfl,L,h2,h3,h4⟩,c3,c4,c5⟩:=zbo (first:=[]) (captured:=[]) (args:=[.sl q 0 N 1,.fn (.func cf) [] []]) (H:=H) hC h0.ext h0.exth h0.fns h0.whole (le' rfl) (zvq C _ cf hS H q N A0 hq hN0 hN hI h10)
  refine ⟨tc,L,?_,h2.2.1,h2.2.2,h3,h4⟩
  rw[c1,zgc hq h2 c3 (fun ht=>(c4 (.inr ht)).2) (fun ht=>c5 rfl ht)]
end K
end Ev
end Go.Proofs.Ytlcjlcllbgjplaa

/- Package road, gone through: Clash, its small functions. -/
namespace Go.Proofs.Ytlcjlcllbgjplaa
open Go
namespace Ev
namespace K
attribute [local simp] ev1 wantG spineK spine float xnew xval xeff zaa zat zbb zax zaw addFl cellsOf pickC alive slLen slFt binI maxA maxK minA minK aeqK aeqS AV.cells spA zau fillA setAt bitsI nat_nn zbd AV.plain apart
set_option maxRecDepth 100000
set_option maxHeartbeats 4000000
theorem zpd (C:Cfg)(call:CallF)(H:List AB)(v:Nat)(hv:v<1024):Does (ev C call H.length none af94.body { tm:=tmA af94.ntmps (zipI 0 [.int .u64 v] []),df:=[],hp:=H,tc:=[] })
    (Ends C H.length af94.res fun w _hp tc=>w=.int .i64 (Clm.sizeN v)∧tc=[]):=by
  unfold af94 Zq Zm Zo Zt Zn
  simp only[zipI]
  (repeat (first|((with_reducible apply zad);(focus ((with_reducible apply zap);(focus rfl);(focus rfl);(focus ((conv=>lhs;simp[*,List.getElem?_append_right,List.set_append_right,List.getElem?_cons_zero,List.getElem?_append_left,List.set_append_left,-getElem?_pos,Nat.testBit_eq_decide_div_mod_eq])<;>exact rfl));(focus rfl);(focus rfl)));simp only[addFl])|(with_reducible apply zad;(focus ((conv=>lhs;simp[*,List.getElem?_append_right,List.set_append_right,List.getElem?_cons_zero,List.getElem?_append_left,List.set_append_left,-getElem?_pos,Nat.testBit_eq_decide_div_mod_eq])<;>exact rfl));simp only[addFl])|((with_reducible first|apply zai|apply zak|apply zah|apply zaf|apply zac|apply zaj|apply zag|apply zal|(apply zae;· simp[*,zaa])|(apply zab;· simp[*,zaa]));try simp only[Then,Ops])|simp only[Nat.reduceEqDiff,reduceIte,OutB,Then]))
  refine zan (v:=.int .i64 (Clm.sizeN v)) (.inl rfl) rfl (by simp) ?_ ⟨rfl,rfl⟩
  simp only[resL,resOf,zam]
  simp[resV,IntKind.wrap,IntKind.bits,IntKind.signed]
  revert hv
  revert v
  decide +kernel
def O64C (call:CallF):Prop:=∀ (H:List AB) (v:Nat),v<1024→call (.fn (.func 94) [] []) [.int .u64 v] H=some (.ret (.int .i64 (Clm.sizeN v)),H,[])
theorem zwg (C:Cfg)(call:CallF)(hO:O64C call)(H:List AB)(v:Nat)(hv:v<1024):Does (ev C call H.length none af68.body { tm:=tmA af68.ntmps (zipI 0 [.int .u64 v] []),df:=[],hp:=H,tc:=[] })
    (Ends C H.length af68.res fun w _hp tc=>w=.int .i64 (Clm.sizeN v)∧tc=[]):=by
  have ho:=fun H=>hO H v hv
  clear hO
  unfold af68 Zq Zm Zo Zc Zt Zn
  simp only[zipI]
  (repeat (first|((with_reducible apply zad);(focus ((with_reducible apply zap);(focus rfl);(focus rfl);(focus ((conv=>lhs;simp[*,List.getElem?_append_right,List.set_append_right,List.getElem?_cons_zero,List.getElem?_append_left,List.set_append_left,-getElem?_pos,Nat.testBit_eq_decide_div_mod_eq])<;>exact rfl));(focus rfl);(focus rfl)));simp only[addFl])|(with_reducible apply zad;(focus ((conv=>lhs;simp[*,List.getElem?_append_right,List.set_append_right,List.getElem?_cons_zero,List.getElem?_append_left,List.set_append_left,-getElem?_pos,Nat.testBit_eq_decide_div_mod_eq])<;>exact rfl));simp only[addFl])|((with_reducible first|apply zai|apply zak|apply zah|apply zaf|apply zac|apply zaj|apply zag|apply zal|(apply zae;(focus (simp[*];done)))|(with_reducible apply zab;(focus (simp[*];done))));try simp only[Then,Ops])|simp only[Nat.reduceEqDiff,reduceIte,OutB,Then]))
  try (with_reducible refine zab rfl ?_)
  (repeat (first|((with_reducible apply zad);(focus ((with_reducible apply zap);(focus rfl);(focus rfl);(focus ((conv=>lhs;simp[*,List.getElem?_append_right,List.set_append_right,List.getElem?_cons_zero,List.getElem?_append_left,List.set_append_left,-getElem?_pos,Nat.testBit_eq_decide_div_mod_eq])<;>exact rfl));(focus rfl);(focus rfl)));simp only[addFl])|(with_reducible apply zad;(focus ((conv=>lhs;simp[*,List.getElem?_append_right,List.set_append_right,List.getElem?_cons_zero,List.getElem?_append_left,List.set_append_left,-getElem?_pos,Nat.testBit_eq_decide_div_mod_eq])<;>exact rfl));simp only[addFl])|((with_reducible first|apply zai|apply zak|apply zah|apply zaf|apply zac|apply zaj|apply zag|apply zal|(apply zae;· simp[*,zaa])|(apply zab;· simp[*,zaa]));try simp only[Then,Ops])|simp only[Nat.reduceEqDiff,reduceIte,OutB,Then]))
  exact zan (v:=.int .i64 (Clm.sizeN v)) (.inl rfl) rfl (by simp) (by simp only[resL,resOf,zam];simp[*,resV]) ⟨rfl,rfl⟩
def OnC (call:CallF):Prop:=∀ (H:List AB) (v:Nat),v<1024→call (.fn (.func 68) [] []) [.int .u64 v] H=some (.ret (.int .i64 (Clm.sizeN v)),H,[])
theorem zgl {v:Nat}:Clm.sizeN v≤16:=by
  unfold Clm.sizeN
  have:∀ n v,Clm.cntF n v≤n:=by
    intro n
    induction n with
    |zero=>intro v;exact Nat.le_refl 0
    |succ n ih=>
      intro v
      have h1:=ih (v / 2)
      unfold Clm.cntF
      have:v % 2≤1:=by omega
      omega
  exact this 16 v
theorem zyt (C:Cfg)(call:CallF)(hO:OnC call)(H:List AB)(a b:Nat)(ha:a<1024)(hb:b<1024):Does (ev C call H.length none af67.body { tm:=tmA af67.ntmps (zipI 0 [.int .u64 a,.int .u64 b] []),df:=[],hp:=H,tc:=[] })
    (Ends C H.length af67.res fun w _hp tc=>w=.int .i64 ((Clm.sizeN a:Int) - Clm.sizeN b)∧tc=[]):=by
  have h1:=fun H=>hO H a ha
  have h2:=fun H=>hO H b hb
  have s1:=zgl (v:=a)
  have s2:=zgl (v:=b)
  have hw:IntKind.i64.wrap ((Clm.sizeN a:Int) - Clm.sizeN b)=(Clm.sizeN a:Int) - Clm.sizeN b:=zas (by omega) (by omega)
  clear hO
  unfold af67 Zq Zm Zo Zc Zt Zn
  simp only[zipI]
  (repeat (first|((with_reducible apply zad);(focus ((with_reducible apply zap);(focus rfl);(focus rfl);(focus ((conv=>lhs;simp[*,List.getElem?_append_right,List.set_append_right,List.getElem?_cons_zero,List.getElem?_append_left,List.set_append_left,-getElem?_pos,Nat.testBit_eq_decide_div_mod_eq])<;>exact rfl));(focus rfl);(focus rfl)));simp only[addFl])|(with_reducible apply zad;(focus ((conv=>lhs;simp[*,List.getElem?_append_right,List.set_append_right,List.getElem?_cons_zero,List.getElem?_append_left,List.set_append_left,-getElem?_pos,Nat.testBit_eq_decide_div_mod_eq])<;>exact rfl));simp only[addFl])|((with_reducible first|apply zai|apply zak|apply zah|apply zaf|apply zac|apply zaj|apply zag|apply zal|(apply zae;· simp[*,zaa])|(apply zab;· simp[*,zaa]));try simp only[Then,Ops])|simp only[Nat.reduceEqDiff,reduceIte,OutB,Then]))
  exact zan (v:=.int .i64 ((Clm.sizeN a:Int) - Clm.sizeN b)) (.inl rfl) rfl (by simp) (by simp only[resL,resOf,zam];simp[*,resV]) ⟨rfl,rfl⟩
end K
namespace Ro
open K
attribute [local simp] ev1 wantG spineK spine float xnew xval xeff zaa zat zbb zax zaw addFl cellsOf pickC alive slLen slFt binI maxA maxK minA minK aeqK aeqS AV.cells spA zau fillA setAt bitsI nat_nn zbd AV.plain apart
set_option maxRecDepth 100000
set_option maxHeartbeats 4000000
def areTo (r:Rd.Road)(set i:Nat):Bool:=(List.range i).all fun i=>!Rd.bit set i || decide ((r.events.getD i default).kind=2)
theorem zqv (r:Rd.Road)(set i:Nat):areTo r set (i+1)=(areTo r set i&&(!Rd.bit set i || decide ((r.events.getD i default).kind=2))):=by
  unfold areTo;rw[List.range_succ,List.all_append];simp
theorem zxe {r:Rd.Road}{set i n:Nat}(hi:i<n)(h:(!Rd.bit set i || decide ((r.events.getD i default).kind=2))=false):areTo r set n=false:=by
  unfold areTo
  rw[← Bool.not_eq_true,List.all_eq_true]
  intro H
  have:=H i (List.mem_range.2 hi)
  rw[h] at this;cases this
theorem zza (C:Cfg)(hC:C.calm=true)(call:CallF)(r:Rd.Road)(hr:r.events.length≤10)(H:List AB)(xb mb eb:Nat)(hX:Rx r xb mb eb H)(set:Nat):
    Does (ev C call H.length none af65.body { tm:=tmA af65.ntmps (zipI 0 [.ptr xb 0,.int .u64 set] []),df:=[],hp:=H,tc:=[] })
      (Ends C H.length af65.res fun w _hp tc=>w=.bool (Rd.areLooks r set)∧tc=[]):=by
  obtain ⟨f0,f1,f2,f3,f4,f5⟩:=bk' hX.x
  have hxl:=hX.xl
  have gg:∀ n,¬ (H.length+n<H.length):=fun n=>by omega
  clear hX
  unfold af65 Zq Zm Zl Zo Zs Zt Zn Zi
  simp only[zipI,roadCs,List.cons_append,List.nil_append] at *
  (repeat (first|((with_reducible apply zad);(focus ((with_reducible apply zap);(focus rfl);(focus rfl);(focus ((conv=>lhs;simp[*,List.getElem?_append_right,List.set_append_right,List.getElem?_cons_zero,List.getElem?_append_left,List.set_append_left,-getElem?_pos,Nat.testBit_eq_decide_div_mod_eq])<;>exact rfl));(focus rfl);(focus rfl)));simp only[addFl])|(with_reducible apply zad;(focus ((conv=>lhs;simp[*,List.getElem?_append_right,List.set_append_right,List.getElem?_cons_zero,List.getElem?_append_left,List.set_append_left,-getElem?_pos,Nat.testBit_eq_decide_div_mod_eq])<;>exact rfl));simp only[addFl])|((with_reducible first|apply zai|apply zak|apply zah|apply zaf|apply zac|apply zaj|apply zag|apply zal|(apply zae;· simp[*,zaa])|(apply zab;· simp[*,zaa]));try simp only[Then,Ops])|simp only[Nat.reduceEqDiff,reduceIte,OutB,Then]))
  with_reducible refine zaz hC r.events.length (by unfold fuelL;omega) (fun i st=>areTo r set i=true∧∃ J,st={ tm:=tmA 29 [(13,.int .i64 i),(12,.int .i64 r.events.length),(11,.vs 7 (r.events.map evE)),(1,.int .u64 set)],df:=[],hp:=H++J,tc:=[] }) ?_ ?_ ?_
  · refine ⟨rfl,[],?_⟩
    (refine st_is ?_ ?_ ?_ ?_;(focus (simp[zao,zar]));(focus rfl);(focus (first|rfl|(simp;done)|(simp[*];done)|(simp;rfl)|(simp[*];omega)|(simp;omega)));(focus (first|rfl|simp)))
  · rintro i st hi ⟨hp,J,rfl⟩
    have hgv:r.events[i]?=some r.events[i]:=List.getElem?_eq_getElem hi
    have hgd:r.events.getD i default=r.events[i]:=by rw[List.getD_eq_getElem?_getD,hgv];rfl
    have hsu:=zqv r set i
    have hno:=zxe (r:=r) (set:=set) hi
    rw[hgd] at hsu hno
    generalize r.events[i]=v at hgv hsu hno
    have hgv':=ge_of hgv
    have hb:=zut (n:=set) (d:=i) (by omega)
    have hwi:IntKind.i64.wrap (↑i+1)=↑i+1:=zas (by omega) (by omega)
    have e5:(i:Int)<r.events.length:=by omega
    have gl:∀ n,¬ (H.length+(J.length+n)<H.length):=fun n=>by omega
    have gl0:¬ (H.length+J.length<H.length):=by omega
    cases hs:set.testBit i with
    |false=>
      rw[hs] at hb
      have HF:=hideP (show areTo r set (i+1)=true by rw[hsu,hp];unfold Rd.bit;rw[hs];rfl)
      clear hsu hno hp f0 f1 f2 f3 f4 f5 hr
      simp at hb
      (repeat (first|((with_reducible apply zad);(focus ((with_reducible apply zap);(focus rfl);(focus rfl);(focus ((conv=>lhs;simp[*,List.getElem?_append_right,List.set_append_right,List.getElem?_cons_zero,List.getElem?_append_left,List.set_append_left,-getElem?_pos,evE,Nat.testBit_eq_decide_div_mod_eq])<;>exact rfl));(focus rfl);(focus rfl)));simp only[addFl])|(with_reducible apply zad;(focus ((conv=>lhs;simp[*,List.getElem?_append_right,List.set_append_right,List.getElem?_cons_zero,List.getElem?_append_left,List.set_append_left,-getElem?_pos,evE,Nat.testBit_eq_decide_div_mod_eq])<;>exact rfl));simp only[addFl])|((with_reducible first|apply zai|apply zak|apply zah|apply zaf|apply zac|apply zaj|apply zag|apply zal|(apply zae;· simp[*,zaa])|(apply zab;· simp[*,zaa]));try simp only[Then,Ops,OutB])|simp only[Nat.reduceEqDiff,reduceIte,OutB,Then]))
      refine ⟨HF.out,J++[.cells [.int .i64 v.kind,.int .i64 v.load.lo,.int .i64 v.load.hi,.int .i64 v.days,.int .i64 v.part,.int .i64 v.shows.lo,.int .i64 v.shows.hi]],?_⟩
      (refine st_is ?_ ?_ ?_ ?_;(focus (simp[zao,zar]));(focus rfl);(focus (first|rfl|(simp;done)|(simp[*];done)|(simp;rfl)|(simp[*];omega)|(simp;omega)));(focus (first|rfl|simp)))
    |true=>
      rw[hs] at hb
      by_cases hk:v.kind=2
      · have HF:=hideP (show areTo r set (i+1)=true by rw[hsu,hp,hk];simp)
        clear hsu hno hp f0 f1 f2 f3 f4 f5 hr
        simp at hb
        (repeat (first|((with_reducible apply zad);(focus ((with_reducible apply zap);(focus rfl);(focus rfl);(focus ((conv=>lhs;simp[*,List.getElem?_append_right,List.set_append_right,List.getElem?_cons_zero,List.getElem?_append_left,List.set_append_left,-getElem?_pos,evE,Nat.testBit_eq_decide_div_mod_eq])<;>exact rfl));(focus rfl);(focus rfl)));simp only[addFl])|(with_reducible apply zad;(focus ((conv=>lhs;simp[*,List.getElem?_append_right,List.set_append_right,List.getElem?_cons_zero,List.getElem?_append_left,List.set_append_left,-getElem?_pos,evE,Nat.testBit_eq_decide_div_mod_eq])<;>exact rfl));simp only[addFl])|((with_reducible first|apply zai|apply zak|apply zah|apply zaf|apply zac|apply zaj|apply zag|apply zal|(apply zae;· simp[*,zaa])|(apply zab;· simp[*,zaa]));try simp only[Then,Ops,OutB])|simp only[Nat.reduceEqDiff,reduceIte,OutB,Then]))
        refine ⟨HF.out,J++[.cells [.int .i64 v.kind,.int .i64 v.load.lo,.int .i64 v.load.hi,.int .i64 v.days,.int .i64 v.part,.int .i64 v.shows.lo,.int .i64 v.shows.hi]],?_⟩
        (refine st_is ?_ ?_ ?_ ?_;(focus (simp[zao,zar]));(focus rfl);(focus (first|rfl|(simp;done)|(simp[*];done)|(simp;rfl)|(simp[*];omega)|(simp;omega)));(focus (first|rfl|simp)))
      · have HF:=hideP (show Rd.areLooks r set=false from hno (by unfold Rd.bit;rw[hs];simp[hk]))
        have hkn:(v.kind != 2)=true:=by simpa using hk
        clear hsu hno hp f0 f1 f2 f3 f4 f5 hr
        simp at hb
        (repeat (first|((with_reducible apply zad);(focus ((with_reducible apply zap);(focus rfl);(focus rfl);(focus ((conv=>lhs;simp[*,List.getElem?_append_right,List.set_append_right,List.getElem?_cons_zero,List.getElem?_append_left,List.set_append_left,-getElem?_pos,evE,Nat.testBit_eq_decide_div_mod_eq])<;>exact rfl));(focus rfl);(focus rfl)));simp only[addFl])|(with_reducible apply zad;(focus ((conv=>lhs;simp[*,List.getElem?_append_right,List.set_append_right,List.getElem?_cons_zero,List.getElem?_append_left,List.set_append_left,-getElem?_pos,evE,Nat.testBit_eq_decide_div_mod_eq])<;>exact rfl));simp only[addFl])|((with_reducible first|apply zai|apply zak|apply zah|apply zaf|apply zac|apply zaj|apply zag|apply zal|(apply zae;· simp[*,zaa])|(apply zab;· simp[*,zaa]));try simp only[Then,Ops,OutB])|simp only[Nat.reduceEqDiff,reduceIte,OutB,Then]))
        exact zan (v:=.bool false) (.inl rfl) rfl (by simp) (by simp only[resL,resOf,zam];simp[*,resV]) ⟨by rw[HF.out],rfl⟩
  · rintro st ⟨hp,J,rfl⟩
    have HF:=hideP (show Rd.areLooks r set=true from hp)
    clear hp f0 f1 f2 f3 f4 f5
    (repeat (first|((with_reducible apply zad);(focus ((with_reducible apply zap);(focus rfl);(focus rfl);(focus ((conv=>lhs;simp[*,List.getElem?_append_right,List.set_append_right,List.getElem?_cons_zero,List.getElem?_append_left,List.set_append_left,-getElem?_pos,Nat.testBit_eq_decide_div_mod_eq])<;>exact rfl));(focus rfl);(focus rfl)));simp only[addFl])|(with_reducible apply zad;(focus ((conv=>lhs;simp[*,List.getElem?_append_right,List.set_append_right,List.getElem?_cons_zero,List.getElem?_append_left,List.set_append_left,-getElem?_pos,Nat.testBit_eq_decide_div_mod_eq])<;>exact rfl));simp only[addFl])|((with_reducible first|apply zai|apply zak|apply zah|apply zaf|apply zac|apply zaj|apply zag|apply zal|(apply zae;· simp[*,zaa])|(apply zab;· simp[*,zaa]));try simp only[Then,Ops,OutB,reduceIte])|simp only[Nat.reduceEqDiff,reduceIte,OutB,Then]))
    exact zan (v:=.bool true) (.inl rfl) rfl (by simp) (by simp only[resL,resOf,zam];simp[*,resV]) ⟨by rw[HF.out],rfl⟩
def AreC (call:CallF)(r:Rd.Road):Prop:=∀ (H:List AB) (xb mb eb:Nat),Rx r xb mb eb H→∀ set:Nat,call (.fn (.func 65) [] []) [.ptr xb 0,.int .u64 set] H=some (.ret (.bool (Rd.areLooks r set)),H,[])
theorem zyu (C:Cfg)(call:CallF)(r:Rd.Road)(hS:CanC call r)(H:List AB)(xb mb eb:Nat)(hX:Rx r xb mb eb H)(set:Nat)(b1:Nat)(h1:H[b1]?=some (.cells [.ptr xb 0])):
    Does (ev C call H.length none af71.body { tm:=tmA af71.ntmps (zipI 0 [.int .u64 set,.ptr b1 0] []),df:=[],hp:=H,tc:=[] })
      (Ends C H.length af71.res fun v hp tc=>v=.bool (!Rd.canR r set)∧(∀ j∈tc,j=mb)∧Rx r xb mb eb hp):=by
  obtain ⟨H',tc,c1,c2,c3,c4⟩:=hS H xb mb eb hX set
  obtain ⟨x0,x1,x2,x3,x4,x5⟩:=bk' h1
  have HQ:=hideP (And.intro c2 (And.intro c3.len c4))
  clear hS hX h1 c2 c3 c4
  generalize Rd.canR r set=b at *
  unfold af71 Zq Zm Zl Zo Zc Zt
  simp only[zipI]
  (repeat (first|(with_reducible apply zad;(focus ((conv=>lhs;simp[*,Nat.testBit_eq_decide_div_mod_eq])<;>exact rfl));simp only[addFl])|((with_reducible first|apply zai|apply zak|apply zah|apply zaf|apply zac|apply zaj|apply zag|apply zal|(apply zae;· simp[*,zaa])|(apply zab;· simp[*,zaa]));try simp only[Then,Ops])|simp only[Nat.reduceEqDiff,reduceIte,OutB,Then]))
  exact zan (.inl rfl) rfl HQ.out.2.1 (by simp only[resL,resOf,zam];simp[*,resV]) ⟨rfl,fun j hj=>HQ.out.1 j (List.mem_filter.1 (by simpa using hj:j∈tc.filter (·<H.length))).1,HQ.out.2.2⟩
end Ro
end Ev
end Go.Proofs.Ytlcjlcllbgjplaa

/- Package road, gone through: Clash, values and the first one of them that is so. -/
namespace Go.Proofs.Ytlcjlcllbgjplaa
open Go
namespace Ev
namespace Ro
open K
attribute [local simp] ev1 wantG spineK spine float xnew xval xeff zaa zat zbb zax zaw addFl cellsOf pickC alive slLen slFt binI maxA maxK minA minK aeqK aeqS AV.cells spA zau fillA setAt bitsI nat_nn zbd AV.plain apart
set_option maxRecDepth 100000
set_option maxHeartbeats 4000000
def VlPre (vb q N:Nat)(L:List Nat)(H:List AB)(T:List Nat):Prop:=H[vb]?=some (.cells [.sl q 0 N 1])∧H[q]?=some (.cells (us L))∧vb∉T∧q∉T
theorem zle (C:Cfg)(hC:C.calm=true)(call:CallF)(vb q N:Nat)(L:List Nat)(hL:L.length=N)(hN:N≤2000)(U:List AB→Prop)(H:List AB)(l:Nat)(T:List Nat)(J:List Nat→List Nat→List AB→Prop)(E:List Nat→List AB→Prop)(M:List Nat→Nat→Prop)
    (hp:VlPre vb q N L H T) (hT:∀ j∈T,j<H.length) (hlT:l∈T) (hJ0:J [] [] H) (hJY:∀ d W G,J d W G→U G) (hM:∀ j,¬ M [] j) (hY:Yields call l H.length T (fun n:Nat=>.int .u64 n) L [] U J E M):
    Does (ev C call H.length none af95.body { tm:=tmA af95.ntmps (zipI 0 [.yield l,.ptr vb 0] []),df:=[],hp:=H,tc:=[] })
      (Ends C H.length af95.res (ItPost H l [] T J E M L)):=by
  obtain ⟨h1,h2,p1,p2⟩:=hp
  have ctx:ItCtx call H H l [] T (fun n:Nat=>.int .u64 n) L U J E M:=⟨hT,by simp,hlT,Kp.refl _ _,hY,hM,hJY⟩
  have hI:ItInv H.length H l [] T J M [] H []:=ctx.start hJ0 (hJY _ _ _ hJ0)
  obtain ⟨x0,x1,x2,x3,x4,x5⟩:=bk' h1
  obtain ⟨y0,y1,y2,y3,y4,y5⟩:=bk' h2
  have hfacts:∀ d hp tc,ItInv H.length H l [] T J M d hp tc→Bk hp q (.cells (us L)):=fun d hp tc h=>bk' (h.at h2 (by simp) p2)
  have hul:(us L).length=N:=by rw[us_len,hL]
  have HC:=hideP (And.intro ctx (And.intro hL hI))
  clear ctx hI hY hJ0 hJY hT hlT h1 h2 hM hL
  unfold af95 Zq Zm Zl Zo Zt Zn
  simp only[zipI]
  (repeat (first|(with_reducible apply zad;(focus ((conv=>lhs;simp[*,Nat.testBit_eq_decide_div_mod_eq])<;>exact rfl));simp only[addFl])|((with_reducible first|apply zai|apply zak|apply zah|apply zaf|apply zac|apply zaj|apply zag|apply zal|(apply zae;· simp[*,zaa])|(apply zab;· simp[*,zaa]));try simp only[Then,Ops])|simp only[Nat.reduceEqDiff,reduceIte,OutB,Then]))
  with_reducible refine zaz hC N (by unfold fuelL;omega) (fun i st=>∃ hp tc,ItInv H.length H l [] T J M (L.take i) hp tc∧st={ tm:=tmA 16 [(7,.int .i64 i),(6,.int .i64 N),(5,.sl q 0 N 1),(0,.yield l)],df:=[],hp:=hp,tc:=tc }) ?_ ?_ ?_
  · refine ⟨_,_,by simpa using HC.out.2.2,st_is ?_ rfl rfl rfl⟩
    simp[zao,zar]
  · rintro i st hi ⟨hp,tc,hV,rfl⟩
    obtain ⟨x0,x1,x2,x3,x4,x5⟩:=hfacts _ _ _ hV
    obtain ⟨ctx,hL,hI⟩:=HC.out
    have hget:L[i]?=some L[i]:=List.getElem?_eq_getElem (by omega)
    have r1:=us_get (l:=L) (i:=i) (by omega)
    have hgd:L.getD i 0=L[i]:=by rw[List.getD_eq_getElem?_getD,hget];rfl
    rw[hgd] at r1
    generalize L[i]=v at hget r1
    have r1':=ge_of r1
    have hpre:=zmy hget
    obtain ⟨b',hp',tc',s1,s2,s3⟩:=hV.step ctx hpre
    have hwi:IntKind.i64.wrap (↑i+1)=↑i+1:=zas (by omega) (by omega)
    have e5:(i:Int)<N:=by omega
    have e6:i+1≤N:=by omega
    have htk:L.take (i+1)=L.take i++[v]:=by rw[List.take_add_one,hget];rfl
    have HS:=hideP (And.intro s2 (And.intro s3 htk))
    clear s2 s3 htk ctx hget hL hI hpre hV hgd
    cases b' with
    |true=>
      (repeat (first|(with_reducible apply zad;(focus ((conv=>lhs;simp[*,Nat.testBit_eq_decide_div_mod_eq])<;>exact rfl));simp only[addFl])|((with_reducible first|apply zai|apply zak|apply zah|apply zaf|apply zac|apply zaj|apply zag|apply zal|(apply zae;· simp[*,zaa])|(apply zab;· simp[*,zaa]));try simp only[Then,Ops,OutB])|simp only[Nat.reduceEqDiff,reduceIte,OutB,Then]))
      have hn:=HS.out.1 rfl
      rw[← HS.out.2.2] at hn
      with_reducible refine ⟨_,_,hn,?_⟩
      refine st_is ?_ rfl rfl rfl
      simp[zao,zar]
    |false=>
      (repeat (first|(with_reducible apply zad;(focus ((conv=>lhs;simp[*,Nat.testBit_eq_decide_div_mod_eq])<;>exact rfl));simp only[addFl])|((with_reducible first|apply zai|apply zak|apply zah|apply zaf|apply zac|apply zaj|apply zag|apply zal|(apply zae;· simp[*,zaa])|(apply zab;· simp[*,zaa]));try simp only[Then,Ops,OutB])|simp only[Nat.reduceEqDiff,reduceIte,OutB,Then]))
      exact zan (.inl rfl) rfl (HS.out.2.1 rfl).k.len (by simp only[resL];rfl) (HS.out.2.1 rfl).post
  · rintro st ⟨hp,tc,hV,rfl⟩
    obtain ⟨x0,x1,x2,x3,x4,x5⟩:=hfacts _ _ _ hV
    obtain ⟨ctx,hL,hI⟩:=HC.out
    rw[← hL,List.take_length] at hV
    have HV:=hideP (hV.post ctx)
    have hl:=hV.len
    clear ctx hL hI hV
    (repeat (first|(with_reducible apply zad;(focus ((conv=>lhs;simp[*,Nat.testBit_eq_decide_div_mod_eq])<;>exact rfl));simp only[addFl])|((with_reducible first|apply zai|apply zak|apply zah|apply zaf|apply zac|apply zaj|apply zag|apply zal|(apply zae;· simp[*,zaa])|(apply zab;· simp[*,zaa]));try simp only[Then,Ops,OutB,reduceIte])|simp only[Nat.reduceEqDiff,reduceIte,OutB,Then]))
    exact zan (.inr rfl) rfl (by simp only;omega) (by simp only[resL];rfl) HV.out
def ValI (C:Cfg)(k m:Nat):Prop:=∀ (vb q N:Nat) (L:List Nat) (U:List AB→Prop),L.length=N→N≤2000→IterG C k m 95 [] [.ptr vb 0] (fun n:Nat=>.int .u64 n) L [] U (VlPre vb q N L)
theorem zve {C:Cfg}(hC:C.calm=true)(m:Nat)(h0:Has C 95 af95):ValI C m (m+1):=by
  intro vb q N L U hL hN
  refine zez hC h0.ext h0.exth h0.fns h0.whole (Nat.le_of_ble_eq_true rfl) ?_
  intro H l T J E M hp h2 h3 h4 h5 h7 h6
  exact zle C hC _ vb q N L hL hN U H l T J E M hp h2 h3 h4 h5 h7 h6
def ValC (call:CallF):Prop:=∀ (H:List AB) (q N:Nat),q<H.length→call (.fn (.func 70) [] []) [.sl q 0 N 1] H=some (.ret (.fn (.func 95) [] [.ptr H.length 0]),H++[.cells [.sl q 0 N 1]],[])
theorem zvf (C:Cfg)(call:CallF)(H:List AB)(q N:Nat):Does (ev C call H.length none af70.body { tm:=tmA af70.ntmps (zipI 0 [.sl q 0 N 1] []),df:=[],hp:=H,tc:=[] })
    (Ends C H.length af70.res fun w hp tc=>w=.fn (.func 95) [] [.ptr H.length 0]∧hp=H++[.cells [.sl q 0 N 1]]∧tc=[]):=by
  unfold af70 Zq Zm Zo Zt
  simp only[zipI]
  (repeat (first|(with_reducible apply zad;(focus ((conv=>lhs;simp[*,Nat.testBit_eq_decide_div_mod_eq])<;>exact rfl));simp only[addFl])|((with_reducible first|apply zai|apply zak|apply zah|apply zaf|apply zac|apply zaj|apply zag|apply zal|(apply zae;· simp[*,zaa])|(apply zab;· simp[*,zaa]));try simp only[Then,Ops])|simp only[Nat.reduceEqDiff,reduceIte,OutB,Then]))
  exact zan (.inl rfl) rfl (by simp) (by simp only[resL,resOf,zam];simp[*,resV]) ⟨rfl,rfl,rfl⟩
def SetF (call:CallF)(F:AV)(r:Rd.Road)(xb mb eb:Nat)(H:List AB)(L:List Nat)(p:Nat→Bool):Prop:=∀ G,Kp [mb] H G→Rx r xb mb eb G→∀ n∈L,∃ G' tc,call F [.int .u64 n] G=some (.ret (.bool (p n)),G',tc)∧(∀ j∈tc,j=mb)∧Kp tc G G'∧Rx r xb mb eb G'
def findU (p:Nat→Bool)(L:List Nat):CRes:=match L.find? p with
  |some n=>.ret (.int .u64 n)
  |none=>.pan (stopV 4)
theorem zly (C:Cfg)(hC:C.calm=true)(hwh:∀ f,C.whole f=true)(n0 m:Nat)(r:Rd.Road)(hM:MustC (Ev.call C m))(hI:ValI C (n0+1) m)(vb q N:Nat)(L:List Nat)(hL:L.length=N)(hN:N≤2000)(H:List AB)(xb mb eb:Nat)(hX:Rx r xb mb eb H)(h1:H[vb]?=some (.cells [.sl q 0 N 1]))(h2:H[q]?=some (.cells (us L)))(n1:vb≠mb)(n2:q≠mb)(fl:Fn)(fa fb:List AV)(p:Nat→Bool)(hF:SetF (Ev.call C n0) (.fn fl fa fb) r xb mb eb H L p):
    Does (ev C (Ev.call C m) H.length none af69.body { tm:=tmA af69.ntmps (zipI 0 [.fn (.func 95) [] [.ptr vb 0],.agg [.fn fl fa fb]] []),df:=[],hp:=H,tc:=[] })
      (Fin C H.length af69 fun x hp tc=>x=findU p L∧(∀ j∈tc,j=mb)∧Rx r xb mb eb hp):=by
  have hx:=hX.xl
  have hm:=hX.ml
  have he:=hX.el
  have hne:=hX.ne
  have hne2:=hX.ne2
  have l1:=get_lt h1
  have l2:=get_lt h2
  unfold af69 Zq Zm Zl Zo Zs Zc Zt Zn
  simp only[zipI]
  (repeat (first|(with_reducible apply zad;(focus ((conv=>lhs;simp[*,Nat.testBit_eq_decide_div_mod_eq])<;>exact rfl));simp only[addFl])|((with_reducible first|apply zai|apply zak|apply zah|apply zaf|apply zac|apply zaj|apply zag|apply zal|(apply zae;· simp[*,zaa])|(apply zab;· simp[*,zaa]));try simp only[Then,Ops])|simp only[Nat.reduceEqDiff,reduceIte,OutB,Then]))
  refine zca hC hwh (hI vb q N L (Rx r xb mb eb) hL hN) (by simp[zaa]) rfl [mb,H.length+1] (by simp;omega) (by simp)
    (fun d W G=>W=[]∧G[H.length+1]?=some (.cells [.int .u64 0])∧∀ n∈d,p n=false) (fun e d G=>e=.ret∧∃ d0 n,d=d0++[n]∧(∀ x∈d0,p x=false)∧p n=true∧G[H.length+1]?=some (.cells [.int .u64 n]))
    (fun rz=>?_) (fun G G' h k=>h.same fun j hj=>k j (by simp;omega) (by simp;omega)) (fun rz=>⟨rfl,by simp,by simp⟩) (fun rz=>(hX.app _).app _) (fun d W G G' h _ k=>?_) (fun e d G G' h k=>?_) ?_ ?_ ?_
  · refine ⟨?_,?_,?_,?_⟩
    · rw[List.append_assoc,List.getElem?_append_left l1];exact h1
    · rw[List.append_assoc,List.getElem?_append_left l2];exact h2
    · simp;omega
    · simp;omega
  · simp only[List.length_append,List.length_cons,List.length_nil,Nat.zero_add,Nat.add_assoc,Nat.reduceAdd] at k
    exact ⟨h.1,(k _ (get_lt h.2.1) (.inl (by omega)) (by simp) (by omega)).trans h.2.1,h.2.2⟩
  · simp only[List.length_append,List.length_cons,List.length_nil,Nat.zero_add,Nat.add_assoc,Nat.reduceAdd] at k
    obtain ⟨q1,d0,n,q2,q3,q4,q5⟩:=h
    exact ⟨q1,d0,n,q2,q3,q4,(k _ (by omega) (by omega)).trans q5⟩
  · rintro d s W G rz hpr ⟨rfl,hJ,hJp⟩ hY hK hl hWb
    simp only[List.length_append,List.length_cons,List.length_nil,Nat.zero_add,Nat.add_assoc,Nat.reduceAdd] at hl ⊢
    rw[setP1]
    (repeat (first|(with_reducible apply zad;(focus ((conv=>lhs;simp[*,Nat.testBit_eq_decide_div_mod_eq])<;>exact rfl));simp only[addFl])|((with_reducible first|apply zai|apply zak|apply zah|apply zaf|apply zac|apply zaj|apply zag|apply zal|(apply zae;· simp[*,zaa])|(apply zab;· simp[*,zaa]));try simp only[Ops])|simp only[Nat.reduceEqDiff,reduceIte,OutB,Then]))
    refine ⟨trivial,trivial,?_⟩
    obtain ⟨G2,hG2,k1,k2,k3,k4⟩:=zdf (G:=G) (l:=H.length+3) (.loop rz) (by omega)
    rw[← hG2]
    clear hG2
    have e0:=(k3 H.length (by omega)).trans (hK.at (b:=H.length) (x:=.cells [.fn fl fa fb]) (by simp) (by simp;omega))
    have e1:=(k3 (H.length+1) (by omega)).trans hJ
    have hX2:Rx r xb mb eb G2:=hY.kp k4 (by simp;omega) (by simp;omega) (by simp;omega)
    have hKH : Kp [mb] H G2 := ⟨by omega, fun b hb hn => by
      rw[k3 b (by omega),hK.get b (by simp;omega) (by simp at hn ⊢;omega),List.getElem?_append_left hb]⟩
    obtain ⟨H3,tc3,c1,c2,c3,c4⟩:=hF G2 hKH hX2 s (hpr.subset (by simp))
    have nt:∀ {j},H.length≤j→j∉tc3:=fun hj ht=>by have:=c2 _ ht;omega
    obtain ⟨x0,x1,x2,x3,x4,x5⟩:=bk' e0
    obtain ⟨y0,y1,y2,y3,y4,y5⟩:=bk' (c3.at e1 (nt (by omega)))
    have k23:=c3.at k2 (nt (by omega))
    have HA:=hideP (And.intro c2 (And.intro c4 (And.intro k23 hJp)))
    have h99:¬ H.length+1=H.length+3:=by omega
    clear c2 c4 k23 hJp hF hX hX2 hKH hY hK hpr hJ e0 e1 k1 k2 k3 k4 c3 nt hM hI
    cases hp:p s with
    |true=>
      rw[hp] at c1
      (repeat (first|(with_reducible apply zad;(focus ((conv=>lhs;simp[*,Nat.testBit_eq_decide_div_mod_eq])<;>exact rfl));simp only[addFl])|((with_reducible first|apply zai|apply zak|apply zah|apply zaf|apply zac|apply zaj|apply zag|apply zal|(apply zae;· simp[*,zaa])|(apply zab;· simp[*,zaa]));try simp only[Then,Ops,OutB])|simp only[Nat.reduceEqDiff,reduceIte,OutB,Then]))
      obtain ⟨c2,c4,k23,hJp⟩:=HA.out
      have k:Kp [H.length+1] H3 (H3.set (H.length+1) (.cells [.int .u64 s])):=(Kp.refl _ _).set _ _ (by simp)
      refine ⟨by simp,k.at k23 (by simp),fun j hj=>?_,c4.kp k (by simp;omega) (by simp;omega) (by simp;omega),(fun h=>by cases h),fun _=>⟨rfl,d,s,rfl,hJp,hp,by rw[List.getElem?_set_self y0]⟩,fun _ _ h=>h.elim⟩
      simp at hj ⊢
      rcases hj with h|h|h
      · exact .inr (.inr (by omega))
      · exact .inr (.inl (c2 j h.1))
      · exact .inl h
    |false=>
      rw[hp] at c1
      (repeat (first|(with_reducible apply zad;(focus ((conv=>lhs;simp[*,Nat.testBit_eq_decide_div_mod_eq])<;>exact rfl));simp only[addFl])|((with_reducible first|apply zai|apply zak|apply zah|apply zaf|apply zac|apply zaj|apply zag|apply zal|(apply zae;· simp[*,zaa])|(apply zab;· simp[*,zaa]));try simp only[Then,Ops,OutB])|simp only[Nat.reduceEqDiff,reduceIte,OutB,Then]))
      obtain ⟨c2,c4,k23,hJp⟩:=HA.out
      refine ⟨by simp,k23,fun j hj=>?_,c4,fun _=>⟨[],by simp,rfl,y1,fun n hn=>?_⟩,fun h=>absurd rfl h,fun _ _ h=>h.elim⟩
      · simp at hj ⊢
        rcases hj with h|h
        · exact .inr (.inl (c2 j h.1))
        · exact .inl h
      · rcases List.mem_append.1 hn with h|h
        · exact hJp n h
        · simp at h;rw[h];exact hp
  · rintro H' tc W g1 g2 g3 g4 g5 g6 ⟨rfl,g7,g8⟩
    simp only[List.length_append,List.length_cons,List.length_nil,Nat.zero_add,Nat.add_assoc,Nat.reduceAdd,List.nil_append,List.append_nil] at g1 g4 g5 ⊢
    simp only[OutB,Then]
    have hmf:=hM.f
    have hfx:findU p L=.pan (stopV 4):=by
      unfold findU
      rw[List.find?_eq_none.2 fun x hx=>by rw[g8 x hx];decide]
    rw[hfx]
    have HA:=hideP (And.intro g1 g3)
    have HD:=hideP g4
    clear g1 g2 g3 g4 g6 g7 g8 hI hX hM hF hfx h1 h2
    (repeat (first|(with_reducible apply zad;(focus ((conv=>lhs;simp[*,Nat.testBit_eq_decide_div_mod_eq])<;>exact rfl));simp only[addFl])|(with_reducible apply zba;(focus ((conv=>lhs;simp[*,Nat.testBit_eq_decide_div_mod_eq])<;>exact rfl));(try simp only[Ops,Then]);(try dsimp only))|((with_reducible first|apply zai|apply zak|apply zah|apply zaf|apply zac|apply zaj|apply zag|apply zal|(apply zae;· simp[*,zaa])|(apply zab;· simp[*,zaa]));try simp only[Then,Ops,OutB,reduceIte])|simp only[Nat.reduceEqDiff,reduceIte,OutB,Then]))
    obtain ⟨g1,g3⟩:=HA.out
    refine zfw rfl HD.out (by omega) (by simp only;omega) ⟨rfl,fun j hj=>?_,g3.kp ((Kp.refl [H.length+2] H').set _ _ (by simp)) (by simp;omega) (by simp;omega) (by simp;omega)⟩
    simp at hj
    have:=g1 j (by first|exact hj.1|(rcases hj with h|h;exact h.1;exact h.1)) (by omega)
    simp at this
    omega
  · rintro e d H' tc g0 g1 g2 g3 g4 g5 g6 ⟨rfl,d0,n,rfl,g7,g8,g9⟩
    simp only[List.length_append,List.length_cons,List.length_nil,Nat.zero_add,Nat.add_assoc,Nat.reduceAdd,List.nil_append,List.append_nil] at g1 g4 g5 ⊢
    simp only[OutB,Then]
    have hfx:findU p L=.ret (.int .u64 n):=by
      unfold findU
      rw[znl g6 g7 g8]
    rw[hfx]
    refine znm (v:=.int .u64 n) (.inl rfl) rfl g4 (by omega) (by simp only;omega) (by simp only[resL,resOf,zam];simp[resV,pickC,List.getElem?_set_ne,g9]) ⟨rfl,fun j hj=>?_,g3.kp ((Kp.refl [H.length+2] H').set _ _ (by simp)) (by simp;omega) (by simp;omega) (by simp;omega)⟩
    simp at hj
    have:=g1 j (by first|exact hj.1|(rcases hj with h|h;exact h.1;exact h.1)) (by omega)
    simp at this
    omega
end Ro
end Ev
end Go.Proofs.Ytlcjlcllbgjplaa

/- What is returned of a road, by its truths: plain. -/
namespace Go.Proofs.Ytlcjlcllbgjplaa
open Go
namespace Rd
open Clm (Sp Hull spanL mem_span setOf)
def Lds (es:List Evt)(ls:List Int):Prop:=ls.length=es.length∧∀ (i:Nat) (v:Evt),es[i]?=some v→(v.kind=0→v.load.has (ls.getD i 0))∧(v.kind≠0→ls.getD i 0=0)
theorem ztp:∀ (es:List Evt) (ls:List Int),Lds es ls→ls∈allR es
  |[],[],_=>by simp[allR]
  |[],x::ls,h=>by have:=h.1;simp at this
  |e::es,[],h=>by have:=h.1;simp at this
  |e::es,x::ls,h=>by
    have h0:=h.2 0 e rfl
    have ht:=ztp es ls ⟨by simpa using h.1,fun i v hv=>h.2 (i+1) v hv⟩
    unfold allR
    by_cases hk:e.kind=0
    · rw[if_pos hk,List.mem_flatMap]
      exact ⟨x,(mem_span _ _).2 (h0.1 hk),List.mem_map.2 ⟨ls,ht,rfl⟩⟩
    · rw[if_neg hk]
      have:x=0:=h0.2 hk
      subst this
      exact List.mem_map.2 ⟨ls,ht,rfl⟩
theorem ztc (es:List Evt)(ls:List Int):ls∈allR es↔Lds es ls:=by
  refine ⟨fun h=>?_,ztp es ls⟩
  obtain ⟨h1,h2⟩:=mem_allR es ls h
  refine ⟨h1,fun i v hv=>?_⟩
  obtain ⟨hi,rfl⟩:=List.getElem?_eq_some_iff.1 hv
  exact h2 i hi
theorem getD_l {l:List Int}{i:Nat}(h:i<l.length)(m:List Int):(l++m).getD i 0=l.getD i 0:=by
  rw[List.getD_eq_getElem?_getD,List.getD_eq_getElem?_getD,List.getElem?_append_left h]
theorem getD_r (l:List Int)(k:Int):(l++[k]).getD l.length 0=k:=by simp[List.getD_eq_getElem?_getD]
def rightE (r:Road)(i:Nat)(p:Tr)(ls:List Int)(h:Int):Prop:=∀ (j:Nat) (v:Evt),r.events[j]?=some v→v.kind=2→v.part=i→v.shows.lo≤heightR r p h ls j∧heightR r p h ls j≤v.shows.hi
theorem every_bit (r:Road){j:Nat}(h:j<r.events.length):bit (everyR r) j=true:=by
  unfold bit everyR
  rw[Nat.testBit_two_pow_sub_one]
  exact decide_eq_true h
theorem zjp (r:Road)(i:Nat)(p:Tr)(ls:List Int)(h:Int):right r i p ls (everyR r) h↔rightE r i p ls h:=by
  unfold right rightE
  constructor
  · intro H j v hv hk hp
    exact H (v,j) (List.mem_zipIdx_iff_getElem?.2 hv) (every_bit r (List.getElem?_eq_some_iff.1 hv).1) hk hp
  · rintro H ⟨v,j⟩ hq _ hk hp
    exact H j v (List.mem_zipIdx_iff_getElem?.1 hq) hk hp
def Tru (r:Road)(ls:List Int)(i:Nat)(p:Tr)(h:Int):Prop:=p∈partsR (r.parts.getD i default)∧(r.parts.getD i default).height.has h∧rightE r i p ls h
def All (r:Road)(ls:List Int):Prop:=Lds r.events ls∧∀ i,i<r.parts.length→∃ p h,Tru r ls i p h
theorem zlc {r:Road}{ls:List Int}{i:Nat}{w:Way}(hw:w∈waysR r i ls (everyR r)){h:Int}(hh:w.first.has h):Tru r ls i w.part h:=by
  obtain ⟨h1,h2,_⟩:=(mem_ways _ _ _ _ _).1 hw
  rw[h2,zib,zjp] at hh
  exact ⟨h1,hh⟩
theorem zlf {r:Road}{ls:List Int}{i:Nat}{p:Tr}{h:Int}(ht:Tru r ls i p h):∃ w∈waysR r i ls (everyR r),w.part=p∧w.first.has h:=by
  have hf:(firstR r i p ls (everyR r)).has h:=(zib _ _ _ _ _ _).2 ⟨ht.2.1,(zjp _ _ _ _ _).2 ht.2.2⟩
  exact ⟨⟨p,firstR r i p ls (everyR r)⟩,(mem_ways _ _ _ _ _).2 ⟨ht.1,rfl,Int.le_trans hf.1 hf.2⟩,rfl,hf⟩
theorem way_lo {r:Road}{ls:List Int}{i:Nat}{w:Way}(hw:w∈waysR r i ls (everyR r)):w.first.has w.first.lo∧w.first.has w.first.hi:=by
  obtain ⟨_,_,h3⟩:=(mem_ways _ _ _ _ _).1 hw
  exact ⟨⟨Int.le_refl _,h3⟩,⟨h3,Int.le_refl _⟩⟩
theorem zdz (r:Road)(ls:List Int):ls∈toldR r (everyR r)↔All r ls:=by
  unfold toldR All
  rw[List.mem_filter,ztc,List.all_eq_true]
  refine and_congr_right fun _=>⟨fun h i hi=>?_,fun h i hi=>?_⟩
  · have:=h i (List.mem_range.2 hi)
    cases hw:waysR r i ls (everyR r) with
    |nil=>rw[hw] at this;cases this
    |cons w l=>
      have hm:w∈waysR r i ls (everyR r):=by rw[hw];simp
      exact ⟨_,_,zlc hm (way_lo hm).1⟩
  · obtain ⟨p,h',ht⟩:=h i (List.mem_range.1 hi)
    obtain ⟨w,hw,_⟩:=zlf ht
    cases he:waysR r i ls (everyR r) with
    |nil=>rw[he] at hw;cases hw
    |cons a b=>rfl
theorem zmh (r:Road):canR r (everyR r)=true↔∃ ls,All r ls:=by
  unfold canR
  constructor
  · intro h
    cases ht:toldR r (everyR r) with
    |nil=>rw[ht] at h;cases h
    |cons a b=>exact ⟨a,(zdz r a).1 (by rw[ht];simp)⟩
  · rintro ⟨ls,h⟩
    have:=(zdz r ls).2 h
    cases ht:toldR r (everyR r) with
    |nil=>rw[ht] at this;cases this
    |cons a b=>rfl
def endR (r:Road)(p:Tr)(h:Int)(ls:List Int):Int:=heightR r p h ls r.events.length
theorem zcx {r:Road}(hc:canR r (everyR r)=true){i:Nat}(hi:i<r.parts.length)(many:Nat):Hull (heightsR r i many) fun x=>∃ ls p h,All r ls∧Tru r ls i p h∧x=heightR r p h ls many:=by
  have H:=zko hc hi many
  have e:∀ x,(∃ ls∈toldR r (everyR r),∃ w∈waysR r i ls (everyR r),∃ h,w.first.has h∧x=heightR r w.part h ls many)↔∃ ls p h,All r ls∧Tru r ls i p h∧x=heightR r p h ls many:=by
    intro x
    constructor
    · rintro ⟨ls,hl,w,hw,h,hh,rfl⟩
      exact ⟨ls,w.part,h,(zdz r ls).1 hl,zlc hw hh,rfl⟩
    · rintro ⟨ls,p,h,hl,ht,rfl⟩
      obtain ⟨w,hw,rfl,hh⟩:=zlf ht
      exact ⟨ls,(zdz r ls).2 hl,w,hw,h,hh,rfl⟩
  exact ⟨(e _).1 H.lo,(e _).1 H.hi,fun x hx=>H.all x ((e x).2 hx)⟩
theorem sink_tru {r:Road}(hc:canR r (everyR r)=true){i:Nat}(hi:i<r.parts.length)(load:Int):Hull (sinksR r i load) fun x=>∃ ls p h,All r ls∧Tru r ls i p h∧x=sunk p load:=by
  have H:=zom hc hi load
  have e:∀ x,(∃ ls∈toldR r (everyR r),∃ w∈waysR r i ls (everyR r),x=sunk w.part load)↔∃ ls p h,All r ls∧Tru r ls i p h∧x=sunk p load:=by
    intro x
    constructor
    · rintro ⟨ls,hl,w,hw,rfl⟩
      exact ⟨ls,w.part,w.first.lo,(zdz r ls).1 hl,zlc hw (way_lo hw).1,rfl⟩
    · rintro ⟨ls,p,h,hl,ht,rfl⟩
      obtain ⟨w,hw,rfl,hh⟩:=zlf ht
      exact ⟨ls,(zdz r ls).2 hl,w,hw,rfl⟩
  exact ⟨(e _).1 H.lo,(e _).1 H.hi,fun x hx=>H.all x ((e x).2 hx)⟩
def addR (r:Road)(v:Evt):Road:=⟨r.parts,r.events++[v]⟩
theorem zny (p:Tr):∀ (es:List Evt) (ls m:List Int) (h:Int),es.length≤ls.length→after p es (ls++m) h=after p es ls h
  |[],_,_,_,_=>rfl
  |v::es,[],m,h,hl=>by simp at hl
  |v::es,x::ls,m,h,hl=>by
    show after p es (ls++m) (stepE v p h x)=after p es ls (stepE v p h x)
    exact zny p es ls m _ (by simpa using hl)
theorem zhl (p:Tr)(v:Evt)(k:Int):∀ (es:List Evt) (ls:List Int) (h:Int),ls.length=es.length→after p (es++[v]) (ls++[k]) h=stepE v p (after p es ls h) k
  |[],[],h,_=>rfl
  |[],x::ls,h,hl=>by simp at hl
  |e::es,[],h,hl=>by simp at hl
  |e::es,x::ls,h,hl=>by
    show after p (es++[v]) (ls++[k]) (stepE e p h x)=stepE v p (after p es ls (stepE e p h x)) k
    exact zhl p v k es ls _ (by simpa using hl)
theorem zcy {r:Road}{v:Evt}{l:List Int}(hl:l.length=r.events.length)(k:Int)(p:Tr)(h:Int){j:Nat}(hj:j≤r.events.length):heightR (addR r v) p h (l++[k]) j=heightR r p h l j:=by
  unfold heightR addR
  simp only
  rw[List.take_append_of_le_length hj]
  exact zny p _ _ _ _ (by simp;omega)
theorem zps {r:Road}{v:Evt}{l:List Int}(hl:l.length=r.events.length)(k:Int)(p:Tr)(h:Int):heightR (addR r v) p h (l++[k]) (r.events.length+1)=stepE v p (endR r p h l) k:=by
  unfold heightR addR endR heightR
  simp only
  rw[List.take_of_length_le (by simp),List.take_of_length_le (Nat.le_refl _)]
  exact zhl p v k _ _ _ hl
theorem zgs (es:List Evt)(v:Evt)(ls:List Int):Lds (es++[v]) ls↔∃ l k,ls=l++[k]∧Lds es l∧(v.kind=0→v.load.has k)∧(v.kind≠0→k=0):=by
  constructor
  · rintro ⟨h1,h2⟩
    have hne:ls≠[]:=fun e=>by rw[e] at h1;simp at h1
    obtain ⟨l,k,rfl⟩:∃ l k,ls=l++[k]:=⟨_,_,(List.dropLast_concat_getLast hne).symm⟩
    have hl:l.length=es.length:=by simpa using h1
    refine ⟨l,k,rfl,⟨hl,fun i w hw=>?_⟩,?_⟩
    · have hi:=(List.getElem?_eq_some_iff.1 hw).1
      have:=h2 i w (by rw[List.getElem?_append_left hi];exact hw)
      rwa [getD_l (by omega)] at this
    · have:=h2 es.length v (by simp)
      rwa [← hl,getD_r] at this
  · rintro ⟨l,k,rfl,⟨h1,h2⟩,h3⟩
    refine ⟨by simp[h1],fun i w hw=>?_⟩
    by_cases hi:i<es.length
    · rw[List.getElem?_append_left hi] at hw
      rw[getD_l (by omega)]
      exact h2 i w hw
    · rw[List.getElem?_append_right (by omega)] at hw
      have h0:i - es.length=0:=by
        have:=(List.getElem?_eq_some_iff.1 hw).1
        simp at this;omega
      rw[h0] at hw
      cases hw
      have:i=l.length:=by omega
      subst this
      rw[getD_r]
      exact h3
theorem zdn {r:Road}{v:Evt}{l:List Int}(hl:l.length=r.events.length)(k:Int)(i:Nat)(p:Tr)(h:Int):Tru (addR r v) (l++[k]) i p h↔Tru r l i p h∧(v.kind=2→v.part=i→v.shows.lo≤endR r p h l∧endR r p h l≤v.shows.hi):=by
  unfold Tru
  have e:rightE (addR r v) i p (l++[k]) h↔rightE r i p l h∧(v.kind=2→v.part=i→v.shows.lo≤endR r p h l∧endR r p h l≤v.shows.hi):=by
    constructor
    · intro H
      refine ⟨fun j w hw hk hp=>?_,fun hk hp=>?_⟩
      · have hj:=(List.getElem?_eq_some_iff.1 hw).1
        have:=H j w (by show (r.events++[v])[j]?=_;rw[List.getElem?_append_left hj];exact hw) hk hp
        rwa [zcy hl k p h (by omega)] at this
      · have:=H r.events.length v (by show (r.events++[v])[_]?=_;simp) hk hp
        rwa [zcy hl k p h (Nat.le_refl _)] at this
    · rintro ⟨H,H2⟩ j w hw hk hp
      have hw':(r.events++[v])[j]?=some w:=hw
      by_cases hj:j<r.events.length
      · rw[List.getElem?_append_left hj] at hw'
        rw[zcy hl k p h (by omega)]
        exact H j w hw' hk hp
      · have hj2:=(List.getElem?_eq_some_iff.1 hw').1
        have:j=r.events.length:=by simp at hj2;omega
        subst this
        rw[zcy hl k p h (Nat.le_refl _)]
        simp at hw'
        subst hw'
        exact H2 hk hp
  rw[e]
  show p∈partsR (r.parts.getD i default)∧(r.parts.getD i default).height.has h∧_↔_
  exact ⟨fun ⟨a,b,c,d⟩=>⟨⟨a,b,c⟩,d⟩,fun ⟨⟨a,b,c⟩,d⟩=>⟨a,b,c,d⟩⟩
theorem zje {r:Road}{v:Evt}(hv:v.kind≠2)(ls:List Int):All (addR r v) ls↔∃ l k,ls=l++[k]∧All r l∧(v.kind=0→v.load.has k)∧(v.kind≠0→k=0):=by
  unfold All
  constructor
  · rintro ⟨h1,h2⟩
    obtain ⟨l,k,rfl,h3,h4⟩:=(zgs r.events v ls).1 h1
    refine ⟨l,k,rfl,⟨h3,fun i hi=>?_⟩,h4⟩
    obtain ⟨p,h,ht⟩:=h2 i hi
    exact ⟨p,h,((zdn h3.1 k i p h).1 ht).1⟩
  · rintro ⟨l,k,rfl,⟨h3,h5⟩,h4⟩
    refine ⟨(zgs r.events v _).2 ⟨l,k,rfl,h3,h4⟩,fun i hi=>?_⟩
    obtain ⟨p,h,ht⟩:=h5 i hi
    exact ⟨p,h,(zdn h3.1 k i p h).2 ⟨ht,fun h=>absurd h hv⟩⟩
theorem tru_part {r:Road}(hr:Fine r){ls:List Int}{i:Nat}(hi:i<r.parts.length){p:Tr}{h:Int}(ht:Tru r ls i p h):1≤p.stiff∧p.stiff≤10∧0≤p.rise∧p.rise≤5∧0≤h∧h≤p.full∧p.full≤60:=by
  obtain ⟨a,b,c,d,e,f⟩:=tr_fine hr hi ht.1
  have hp:=hr.part _ (part_mem hi)
  have hh:=ht.2.1
  simp only[Sp.has] at hh
  omega
theorem lds_nn {r:Road}(hr:Fine r){ls:List Int}(hl:Lds r.events ls):∀ x∈ls,0≤x∧x≤60:=load_nn hr ((ztc _ _).2 hl)
theorem zjj {p:Tr}(h1:1≤p.stiff){a b:Int}(h:a≤b):sunk p a≤sunk p b:=Int.ediv_le_ediv (by omega) (by omega)
end Rd
end Go.Proofs.Ytlcjlcllbgjplaa
