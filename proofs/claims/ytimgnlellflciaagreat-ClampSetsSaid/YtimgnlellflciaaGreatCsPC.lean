/- Package clamp, gone through: clamps that have a truth. -/
import Derived.Test.YtimgnlellflciaaGreatCsPB
/- Package clamp, gone through: the ways in which a clamp can be. -/
namespace Go.Proofs.YtimgnlellflciaaGreat
open Go
namespace Ev
namespace K
attribute [local simp] ev1 wantG spineK spine float xnew xval xeff zaa zar zbb zau zav addFl cellsOf pickC alive slLen slFt binI maxA maxK minA minK aeqK aeqS AV.cells spA zas fillA setAt bitsI nat_nn zbe AV.plain apart
set_option maxRecDepth 100000
set_option maxHeartbeats 4000000
def LogC (call:CallF)(c:Clm.Cl):Prop:=∀ (H:List AB) (yb mb:Nat),Yd c yb mb H→∀ q,QOk q→q.num<c.piles.length →
  ∃ H' tc,call (.fn (.func 103) [] []) [.ptr yb 0,qA q] H=some (.ret (logA c q),H',tc)∧(∀ j∈tc,j=mb)∧Kp tc H H'∧Yd c yb mb H'
def SizesC (call:CallF):Prop:=∀ (H:List AB) (yb:Nat) (n pack:Int),call (.fn (.func 102) [] []) [.ptr yb 0,.int .i64 n,.int .i64 pack] H=some (.ret (.fn (.func 106) [] [.ptr H.length 0,.ptr (H.length+1) 0,.ptr (H.length+2) 0]),H++[.cells [.ptr yb 0],.cells [.int .i64 n],.cells [.int .i64 pack]],[])
def wayCs (n:Nat)(pack:Int)(w:Clm.Way):List AV:=[.int .i64 n,.int .i64 w.size.l,.int .i64 w.size.w,.int .i64 w.size.h,.int .i64 pack]++arr7 fun i=>w.log.getD i ⟨0,0⟩
theorem zeh (n:Nat)(pack:Int)(w:Clm.Way):(wayCs n pack w).length=19:=rfl
inductive WaysV (n:Nat) (pack:Int) (H:List AB) (lo:Nat):AV→List Clm.Way→Prop
  |none:WaysV n pack H lo .nils []
  |some (b:Nat) (ws:List Clm.Way):lo≤b→H[b]?=some (.cells (ws.flatMap (wayCs n pack)))→ws≠[]→WaysV n pack H lo (.sl b 0 ws.length 19) ws
def filt (c:Clm.Cl)(n:Nat)(pack:Int)(counts:Nat)(d:List Clm.Size):List Clm.Way:=d.filterMap fun s=>if ((Clm.logOf c n pack counts s).headD Clm.Sp.no).some then some ⟨s,Clm.logOf c n pack counts s⟩ else none
theorem zqp (c:Clm.Cl)(n:Nat)(pack:Int)(counts:Nat)(d:List Clm.Size):(filt c n pack counts d).length≤d.length:=List.length_filterMap_le _ _
theorem zzo (c:Clm.Cl)(n:Nat)(pack:Int)(counts:Nat)(d:List Clm.Size)(s:Clm.Size):filt c n pack counts (d++[s])=filt c n pack counts d++(if ((Clm.logOf c n pack counts s).headD Clm.Sp.no).some then [⟨s,Clm.logOf c n pack counts s⟩] else []):=by
  unfold filt
  rw[List.filterMap_append]
  congr 1
  simp only[List.filterMap_cons,List.filterMap_nil]
  split<;>(rename_i h;split at h<;>simp_all)
inductive Lst (n:Nat) (pack:Int) (lo:Nat) (G:List AB):List Nat→List Clm.Way→AV→Prop
  |none:Lst n pack lo G [] [] .nils
  |some (b:Nat) (ws:List Clm.Way):lo<b→G[b]?=some (.cells (ws.flatMap (wayCs n pack)))→ws≠[]→Lst n pack lo G [b] ws (.sl b 0 ws.length 19)
theorem Lst.kp {n:Nat}{pack:Int}{lo:Nat}{G G':List AB}{W:List Nat}{ws:List Clm.Way}{v:AV}(h:Lst n pack lo G W ws v){S:List Nat}(k:Kp S G G')(hs:∀ j∈W,j∉S):Lst n pack lo G' W ws v:=by
  cases h with
  |none=>exact .none
  |some b ws h1 h2 h3=>exact .some b ws h1 (k.at h2 (hs b (by simp))) h3
structure WJ (c:Clm.Cl) (n:Nat) (pack:Int) (counts yb mb o:Nat) (r:ALoop) (d:List Clm.Size) (W:List Nat) (G:List AB):Prop where
  yd:Yd c yb mb G
  b0:G[o]?=some (.cells [.ptr yb 0])
  b1:G[o+1]?=some (.cells [.int .u64 counts])
  b3:G[o+3]?=some (.cells [.fn (.func 101) [] []])
  bd:G[o+7]?=some .dfr
  bl:G[o+8]?=some (.loop r)
  b2:∃ lv,G[o+2]?=some (.cells [lv])∧Lst n pack (o+8) G W (filt c n pack counts d) lv
theorem zgw (n:Nat)(pack:Int):∀ ws:List Clm.Way,(ws.flatMap (wayCs n pack)).length=ws.length * 19
  |[]=>rfl
  |w::ws=>by rw[List.flatMap_cons,List.length_append,zgw n pack ws,zeh,List.length_cons];omega
theorem zgi {s:Clm.Sp}(h:s.hi - s.lo≤1):(Clm.spanL s).length≤2:=by rw[Clm.span_len];omega
theorem flat_len {α β:Type}(f:α→List β)(k:Nat):∀ (l:List α),(∀ a∈l,(f a).length≤k)→(l.flatMap f).length≤l.length * k
  |[],_=>by simp
  |a::l,h=>by
    have h1:=flat_len f k l fun b hb=>h b (by simp[hb])
    have h2:=h a (by simp)
    simp only[List.flatMap_cons,List.length_append,List.length_cons,Nat.add_mul,Nat.one_mul]
    omega
theorem zlv {c:Clm.Cl}(hc:Clm.Fine c){n:Nat}(hn:n<c.piles.length):(Clm.sizes c.piles[n]).length≤8:=by
  have hpl:=hc.pile _ (List.getElem_mem hn)
  generalize c.piles[n]=p at hpl
  have h1:=zgi (s:=p.long) (by omega)
  have h2:=zgi (s:=p.wide) (by omega)
  have h3:=zgi (s:=p.high) (by omega)
  unfold Clm.sizes
  refine Nat.le_trans (flat_len _ 4 _ fun l _=>Nat.le_trans (flat_len _ 2 _ fun w _=>?_) ?_) ?_
  · simpa using h3
  · omega
  · omega
theorem ztt (C:Cfg)(hC:C.calm=true)(m:Nat)(h96:Has C 106 af106)(c:Clm.Cl)(hc:Clm.Fine c)(hSz:SizesC (Ev.call C (m+2)))(hLog:LogC (Ev.call C m) c)(hSome:SomeC (Ev.call C m))(H:List AB)(yb mb:Nat)(hY:Yd c yb mb H)(n:Nat)(hn:n<c.piles.length)(pack:Int)(hp0:0≤pack)(hp1:pack≤5)(counts:Nat):
    Does (ev C (Ev.call C (m+2)) H.length none af95.body { tm:=tmA af95.ntmps (zipI 0 [.ptr yb 0,.int .i64 n,.int .i64 pack,.int .u64 counts] []),df:=[],hp:=H,tc:=[] })
      (Ends C H.length af95.res fun v hp tc=>(∀ j∈tc,j=mb)∧Kp tc H hp∧Yd c yb mb hp∧WaysV n pack hp H.length v (Clm.ways c n pack counts)):=by
  unfold af95
  simp only[zipI]
  unfold SizesC at hSz
  (repeat (first|(with_reducible apply zad;(focus ((conv=>lhs;simp[*,Nat.testBit_eq_decide_div_mod_eq])<;>exact rfl));simp only[addFl])|((with_reducible first|apply zai|apply zak|apply zah|apply zaf|apply zac|apply zaj|apply zag|apply zam|(apply zae;· simp[*,zaa])|(apply zab;· simp[*,zaa]));try simp only[Then,Ops])|simp only[Nat.reduceEqDiff,reduceIte,OutB,Then]))
  with_reducible apply zhj (gf:=106) (first:=[]) (captured:=[.ptr (H.length+4) 0,.ptr (H.length+4+1) 0,.ptr (H.length+4+2) 0])
  · simp[zaa]
  · intro r hr
    have ra:=congrArg ALoop.assign hr
    have rb:=congrArg ALoop.body hr
    have rt:=congrArg ALoop.tm hr
    have rp:=congrArg ALoop.params hr
    have rs:=congrArg ALoop.st hr
    have rq:=congrArg ALoop.pend hr
    clear hr
    simp only at ra rb rt rp rs rq
    simp only[List.length_append,List.length_cons,List.length_nil,Nat.zero_add,Nat.add_assoc,Nat.reduceAdd]
    have hyl:=get_lt hY.y
    obtain ⟨es,hm,hes⟩:=hY.m
    have hml:=get_lt hm
    have hgn:c.piles[n]?=some c.piles[n]:=List.getElem?_eq_getElem hn
    obtain ⟨H1,hH1⟩:∃ H1,H1=H++[.cells [.ptr yb 0],.cells [.int .u64 counts],.cells [.nils],.cells [.fn (.func 101) [] []],.cells [.ptr yb 0],.cells [.int .i64 n],.cells [.int .i64 pack],.dfr,.loop r]:=⟨_,rfl⟩
    have hY1:Yd c yb mb H1:=by rw[hH1];exact hY.app _
    have hlen1:H1.length=H.length+9:=by rw[hH1];simp
    have hJ0:WJ c n pack counts yb mb H.length r [] [] H1:=⟨hY1,by rw[hH1];simp,by rw[hH1];simp,by rw[hH1];simp,by rw[hH1];simp,by rw[hH1];simp,.nils,by rw[hH1];simp,.none⟩
    have hstep:Yields (Ev.call C (m+1)) (H.length+8) [mb,H.length+2,H.length+8] (fun s=>sizeA n s pack) (Clm.sizes c.piles[n]) [] (fun _=>True) (WJ c n pack counts yb mb H.length r) (fun _ _=>False):=by
      refine ⟨fun d W G G' h k _=>?_,?_⟩
      · obtain ⟨lv,l1,l2⟩:=h.b2
        exact ⟨h.yd.kp k (by simp) (by simp),k.at h.b0 (by simp),k.at h.b1 (by simp),k.at h.b3 (by simp),k.at h.bd (by simp),k.at h.bl (by simp),lv,k.at l1 (by simp),l2.kp k (by simp)⟩
      · intro d s W G hpre hJ
        obtain ⟨lv,l1,l2⟩:=hJ.b2
        have hsz:(filt c n pack counts d).length+1≤bound:=by
          have h1:=zqp c n pack counts d
          have h2:=hpre.length_le
          have h3:=zlv hc hn
          rw[List.length_append] at h2
          simp at h2
          unfold bound;omega
        have hms:s∈Clm.sizes c.piles[n]:=hpre.subset (by simp)
        rw[Clm.mem_sizes] at hms
        have hpl:=hc.pile _ (List.getElem_mem hn)
        simp only[Clm.Sp.has] at hms
        have hqk:QOk ⟨n,s,pack,counts⟩:=⟨by simp only;omega,by simp only;omega,by simp only;omega,by simp only;omega,by simp only;omega,by simp only;omega,hp0,hp1⟩
        have hlW:∀ j∈W,H.length+8<j:=by
          generalize filt c n pack counts d=ws at l2
          cases l2 with
          |none=>simp
          |some b ws q1 q2 q3=>simpa using q1
        have hround:=zji (C:=C) (n:=m) (l:=H.length+8) (args:=[sizeA n s pack]) (H:=G) (r:=r)
          (Q := fun e hp tc => e = .normal ∧ (∀ j ∈ tc, j = H.length + 8 ∨ j = H.length + 2 ∨ j = mb ∨ j ∈ W) ∧ Kp tc G hp ∧ (∃ W', (∀ j ∈ W', j ∈ W ∨ G.length ≤ j) ∧ WJ c n pack counts yb mb H.length { r with st := .busy } (d ++ [s]) W' hp)) hC hJ.bl rs rq (by rw [rp]; rfl) (by
          generalize hrz:({ r with st:=.busy }:ALoop)=rz
          rw[ra,rb,rt,rp]
          rw[setP1]
          simp only[sizeA]
          obtain ⟨f0,f1,f2,f3,f4,f5⟩:=bk' hJ.b0
          have hbl:=hJ.bl
          have hlG:=get_lt hbl
          (repeat (first|(with_reducible apply zad;(focus ((conv=>lhs;simp[*,Nat.testBit_eq_decide_div_mod_eq])<;>exact rfl));simp only[addFl])|((with_reducible first|apply zai|apply zak|apply zah|apply zaf|apply zac|apply zaj|apply zag|apply zam|(apply zae;· simp[*,zaa])|(apply zab;· simp[*,zaa]));try simp only[Ops])|simp only[Nat.reduceEqDiff,reduceIte,OutB,Then]))
          refine ⟨trivial,(List.getElem?_append_left hlG).trans hbl,?_⟩
          obtain ⟨G2,hG2⟩:∃ G2,G2=(G++[AB.cells [.int .i64 n,.int .i64 s.l,.int .i64 s.w,.int .i64 s.h,.int .i64 pack]]).set (H.length+8) (.loop rz):=⟨_,rfl⟩
          have atG:∀ {j x},G[j]?=some x→j≠H.length+8→G2[j]?=some x:=fun hx hj=>by
            rw[hG2,List.getElem?_set_ne (by omega),List.getElem?_append_left (get_lt hx)];exact hx
          have k0:=atG hJ.b0 (by omega)
          have k1:=atG hJ.b1 (by omega)
          have k2:=atG l1 (by omega)
          have k3:=atG hJ.b3 (by omega)
          have kd:=atG hJ.bd (by omega)
          have kl:G2[H.length+8]?=some (.loop rz):=by rw[hG2,List.getElem?_set_self (by simp;omega)]
          have ks:G2[G.length]?=some (.cells [.int .i64 n,.int .i64 s.l,.int .i64 s.w,.int .i64 s.h,.int .i64 pack]):=by
            rw[hG2,List.getElem?_set_ne (by omega)];simp
          have hY2:Yd c yb mb G2:=by
            obtain ⟨es3,m1,m2⟩:=hJ.yd.m
            exact ⟨hY.ne,atG hJ.yd.y (by omega),es3,atG m1 (by omega),m2⟩
          have hlen2:G2.length=G.length+1:=by rw[hG2];simp
          have hK2:Kp [H.length+8] G G2:=by rw[hG2];exact (Kp.app G _).set _ _ (by simp)
          have k2W:Lst n pack (H.length+8) G2 W (filt c n pack counts d) lv:=l2.kp hK2 fun j hj=>by have:=hlW j hj;simp;omega
          rw[← hG2]
          clear f0 f1 f2 f3 f4 f5
          obtain ⟨G3,tc3,c1,c2,c3',c4⟩:=hLog G2 yb mb hY2 ⟨n,s,pack,counts⟩ hqk hn
          have c3:Kp [mb] G2 G3:=c3'.mono fun b _ h=>by simpa using c2 b h
          simp only[qA,logA] at c1
          have hsm:=fun H=>hSome H (logF c ⟨n,s,pack,counts⟩ 0)
          have nl:∀ {j},H.length≤j→j∉[mb]:=fun h=>by simp;omega
          obtain ⟨e0,e1,e2,e3,e4,e5⟩:=bk' k0
          obtain ⟨f0,f1,f2,f3,f4,f5⟩:=bk' k1
          obtain ⟨g0,g1,g2,g3,g4,g5⟩:=bk' ks
          obtain ⟨o0,o1,o2,o3,o4,o5⟩:=bk' (c3.at k3 (nl (by omega)))
          obtain ⟨p0,p1,p2,p3,p4,p5⟩:=bk' (c3.at k2 (nl (by omega)))
          obtain ⟨q0,q1,q2,q3,q4,q5⟩:=bk' (c3.at ks (nl (by omega)))
          have kl3:=c3.at kl (nl (by omega))
          have kd3:=c3.at kd (nl (by omega))
          have k03:=c3.at k0 (nl (by omega))
          have k13:=c3.at k1 (nl (by omega))
          have k33:=c3.at k3 (nl (by omega))
          have k2W3:Lst n pack (H.length+8) G3 W (filt c n pack counts d) lv:=k2W.kp c3 fun j hj=>by have:=hlW j hj;simp;omega
          have hl3:G.length+1≤G3.length:=by have:=c3.len;omega
          have h1:G.length<G3.length:=by omega
          have t5:=zdf (logF c ⟨n,s,pack,counts⟩)
          have t6:=zia (logF c ⟨n,s,pack,counts⟩)
          have t7:=zhd (logF c ⟨n,s,pack,counts⟩)
          have t8:=zdy (logF c ⟨n,s,pack,counts⟩) (i:=0) (by decide)
          simp only[Nat.zero_mul,List.drop_zero] at t8
          have hfil:=zzo c n pack counts d s
          have hhead:(Clm.logOf c n pack counts s).headD Clm.Sp.no=logF c ⟨n,s,pack,counts⟩ 0:=(Clm.bwd_head _ _).symm
          rw[hhead] at hfil
          have hway:wayCs n pack ⟨s,Clm.logOf c n pack counts s⟩=[.int .i64 n,.int .i64 s.l,.int .i64 s.w,.int .i64 s.h,.int .i64 pack]++arr7 (logF c ⟨n,s,pack,counts⟩):=rfl
          have HA:=hideP (And.intro hJ (And.intro k03 (And.intro k13 (And.intro k33 (And.intro kd3 (And.intro kl3 (And.intro k2W3 (And.intro hfil (And.intro hway (And.intro c2 (And.intro c3' (And.intro c4 (And.intro hK2 (And.intro hlW (And.intro hl3 hlen2)))))))))))))))
          have hyl2:yb<G2.length:=get_lt hY2.y
          cases hso:(logF c ⟨n,s,pack,counts⟩ 0).some with
          |false=>
            simp only[hso] at hsm
            clear hfil hway c2 c3 c3' c4 hK2 hlW hl3 hlen2 k0 k1 k2 k3 kd kl ks kl3 kd3 k03 k13 k33 k2W k2W3 hJ hG2 atG hhead hY1 hH1 hlen1 ra rb rt rp rs rq hY hm hes hSz hLog hSome l2 l1
            clear hrz
            (repeat (first|(with_reducible apply zad;(focus ((conv=>lhs;simp[*,Nat.testBit_eq_decide_div_mod_eq])<;>exact rfl));simp only[addFl])|((with_reducible first|apply zai|apply zak|apply zah|apply zaf|apply zac|apply zaj|apply zag|apply zam|(apply zae;· simp[*,zaa])|(apply zab;· simp[*,zaa]));try simp only[Then,Ops,OutB])|simp only[Nat.reduceEqDiff,reduceIte,OutB,Then]))
            obtain ⟨hJ,k03,k13,k33,kd3,kl3,k2W3,hfil,hway,c2,c3',c4,hK2,hlW,hl3,hlen2⟩:=HA.out
            rw[hso] at hfil
            simp only[Bool.false_eq_true,if_false,List.append_nil] at hfil
            refine ⟨by simp,(List.getElem?_append_left (get_lt kl3)).trans kl3,by simp;omega,trivial,?_,?_,W,fun j hj=>.inl hj,?_⟩
            · intro j hj
              simp only[List.mem_append,List.mem_filter,decide_eq_true_eq,List.mem_singleton] at hj
              rcases hj with ⟨rfl,h⟩|⟨h,_⟩|h
              · omega
              · exact .inr (.inr (.inl (c2 j h)))
              · exact .inl h
            · exact (((hK2.trans2 c3').trans (Kp.app _ _))).mono fun b _ h=>List.mem_append_right _ h
            · refine ⟨c4.app _,(Kp.app (S:=[]) _ _).at k03 (by simp),(Kp.app (S:=[]) _ _).at k13 (by simp),(Kp.app (S:=[]) _ _).at k33 (by simp),(Kp.app (S:=[]) _ _).at kd3 (by simp),(Kp.app (S:=[]) _ _).at kl3 (by simp),lv,(Kp.app (S:=[]) _ _).at p1 (by simp),?_⟩
              rw[hfil]
              exact k2W3.kp (Kp.app (S:=[]) _ _) (by simp)
          |true=>
            simp only[hso] at hsm
            have hcl:=zgw n pack (filt c n pack counts d)
            clear hfil hway c2 c3 c3' c4 hK2 hlW hl3 hlen2 k0 k1 k2 k3 kd kl ks kl3 kd3 k03 k13 k33 k2W hJ hG2 atG hhead hY1 hH1 hlen1 ra rb rt rp rs rq hY hm hes hSz hLog hSome l2 l1
            clear hrz
            rw[hso] at HA
            simp only[if_true] at HA
            have hb2:∀ n,H.length+2<G3.length+n:=by omega
            have hb1:1≤bound:=by decide
            generalize filt c n pack counts d=ws at *
            cases k2W3 with
            |none=>
              (repeat (first|(with_reducible apply zad;(focus ((conv=>lhs;simp[*,Nat.testBit_eq_decide_div_mod_eq])<;>exact rfl));simp only[addFl])|((with_reducible first|apply zai|apply zak|apply zah|apply zaf|apply zac|apply zaj|apply zag|apply zam|(apply zae;· simp[*,zaa])|(apply zab;· simp[*,zaa]));try simp only[Then,Ops,OutB])|simp only[Nat.reduceEqDiff,reduceIte,OutB,Then]))
              obtain ⟨hJ,k03,k13,k33,kd3,kl3,k2W3,hfil,hway,c2,c3',c4,hK2,hlW,hl3,hlen2⟩:=HA.out
              have hk3:=hK2.trans2 c3'
              obtain ⟨hp',hhp⟩:∃ hp',hp'=G3.set (H.length+2) (.cells [.sl (G3.length+2) 0 1 19])++[.cells (arr7 (logF c ⟨n,s,pack,counts⟩)),.cells (.int .i64 n::.int .i64 s.l::.int .i64 s.w::.int .i64 s.h::.int .i64 pack::arr7 (logF c ⟨n,s,pack,counts⟩)),.cells (.int .i64 n::.int .i64 s.l::.int .i64 s.w::.int .i64 s.h::.int .i64 pack::arr7 (logF c ⟨n,s,pack,counts⟩))]:=⟨_,rfl⟩
              have at5:∀ {j x},G3[j]?=some x→j≠H.length+2→hp'[j]?=some x:=fun hx h1=>by
                rw[hhp,List.getElem?_append_left (by simpa using get_lt hx),List.getElem?_set_ne (by omega)];exact hx
              have h2':hp'[H.length+2]?=some (.cells [.sl (G3.length+2) 0 (1) 19]):=by
                rw[hhp,List.getElem?_append_left (by simpa using p0),List.getElem?_set_self (by simpa using p0)]
              have hnew:hp'[G3.length+2]?=some (.cells (.int .i64 n::.int .i64 s.l::.int .i64 s.w::.int .i64 s.h::.int .i64 pack::arr7 (logF c ⟨n,s,pack,counts⟩))):=by
                rw[hhp,List.getElem?_append_right (by simp)];simp
              rw[← hhp]
              have hlen5:hp'.length=G3.length+3:=by rw[hhp];simp
              obtain ⟨es5,m51,m52⟩:=c4.m
              refine ⟨by simp,at5 kl3 (by omega),by omega,trivial,?_,?_,[G3.length+2],fun j hj=>by simp at hj;omega,?_⟩
              · intro j hj
                simp only[List.mem_append,List.mem_filter,decide_eq_true_eq,List.mem_singleton] at hj ⊢
                rcases hj with ⟨h,_⟩|⟨rfl,h⟩|⟨h,_⟩|h
                · exact .inr (.inl h)
                · omega
                · exact .inr (.inr (.inl (c2 j h)))
                · exact .inl h
              · rw[hhp]
                refine Kp.trans ?_ (Kp.app _ _)
                refine Kp.set ?_ _ _ (fun h=>List.mem_append_left _ (List.mem_filter.2 ⟨by simp,by simpa using h⟩))
                exact hk3.mono fun j _ h=>List.mem_append_right _ (List.mem_append_right _ h)
              · refine ⟨⟨hY2.ne,at5 c4.y (by omega),es5,at5 m51 (by omega),m52⟩,at5 k03 (by omega),at5 k13 (by omega),at5 k33 (by omega),at5 kd3 (by omega),at5 kl3 (by omega),_,h2',?_⟩
                rw[hfil]
                have hne:=List.append_ne_nil_of_right_ne_nil ([]:List Clm.Way) (show [(⟨s,Clm.logOf c n pack counts s⟩:Clm.Way)]≠[] by simp)
                have:=Lst.some (n:=n) (pack:=pack) (lo:=H.length+8) (G:=hp') (G3.length+2) (([]:List Clm.Way)++[⟨s,Clm.logOf c n pack counts s⟩]) (by omega) (by rw[hnew,List.flatMap_append,List.flatMap_cons,hway,List.flatMap_nil];simp) hne
                simpa using this
            |some b ws z1 z2 z3=>
              generalize hcs:ws.flatMap (wayCs n pack)=cs at *
              have HC:=hideP hcs
              clear hcs
              obtain ⟨x0,x1,x2,x3,x4,x5⟩:=bk' z2
              have hbb:¬ b=H.length+2:=by omega
              (repeat (first|(with_reducible apply zad;(focus ((conv=>lhs;simp[*,Nat.testBit_eq_decide_div_mod_eq])<;>exact rfl));simp only[addFl])|((with_reducible first|apply zai|apply zak|apply zah|apply zaf|apply zac|apply zaj|apply zag|apply zam|(apply zae;· simp[*,zaa])|(apply zab;· simp[*,zaa]));try simp only[Then,Ops,OutB])|simp only[Nat.reduceEqDiff,reduceIte,OutB,Then]))
              have hcs:=HC.out
              obtain ⟨hJ,k03,k13,k33,kd3,kl3,k2W3,hfil,hway,c2,c3',c4,hK2,hlW,hl3,hlen2⟩:=HA.out
              have hk3:=hK2.trans2 c3'
              obtain ⟨hp',hhp⟩:∃ hp',hp'=(G3.set b .dead).set (H.length+2) (.cells [.sl (G3.length+2) 0 (ws.length+1) 19])++[.cells (arr7 (logF c ⟨n,s,pack,counts⟩)),.cells (.int .i64 n::.int .i64 s.l::.int .i64 s.w::.int .i64 s.h::.int .i64 pack::arr7 (logF c ⟨n,s,pack,counts⟩)),.cells (cs++.int .i64 n::.int .i64 s.l::.int .i64 s.w::.int .i64 s.h::.int .i64 pack::arr7 (logF c ⟨n,s,pack,counts⟩))]:=⟨_,rfl⟩
              have at5:∀ {j x},G3[j]?=some x→j≠H.length+2→j≠b→hp'[j]?=some x:=fun hx h1 h2=>by
                rw[hhp,List.getElem?_append_left (by simpa using get_lt hx),List.getElem?_set_ne (by omega),List.getElem?_set_ne (by omega)];exact hx
              have h2':hp'[H.length+2]?=some (.cells [.sl (G3.length+2) 0 (ws.length+1) 19]):=by
                rw[hhp,List.getElem?_append_left (by simpa using p0),List.getElem?_set_self (by simpa using p0)]
              have hnew:hp'[G3.length+2]?=some (.cells (cs++.int .i64 n::.int .i64 s.l::.int .i64 s.w::.int .i64 s.h::.int .i64 pack::arr7 (logF c ⟨n,s,pack,counts⟩))):=by
                rw[hhp,List.getElem?_append_right (by simp)];simp
              rw[← hhp]
              have hlen5:hp'.length=G3.length+3:=by rw[hhp];simp
              obtain ⟨es5,m51,m52⟩:=c4.m
              refine ⟨by simp,at5 kl3 (by omega) (by omega),by omega,trivial,?_,?_,[G3.length+2],fun j hj=>by simp at hj;omega,?_⟩
              · intro j hj
                simp only[List.mem_append,List.mem_filter,decide_eq_true_eq,List.mem_singleton] at hj ⊢
                rcases hj with ⟨h,_⟩|⟨h,_⟩|⟨rfl,h⟩|⟨h,_⟩|h
                · exact .inr (.inl h)
                · exact .inr (.inr (.inr h))
                · omega
                · exact .inr (.inr (.inl (c2 j h)))
                · exact .inl h
              · rw[hhp]
                refine Kp.trans ?_ (Kp.app _ _)
                refine Kp.set ?_ _ _ (fun h=>List.mem_append_left _ (List.mem_filter.2 ⟨by simp,by simpa using h⟩))
                refine Kp.set ?_ _ _ (fun h=>List.mem_append_right _ (List.mem_append_left _ (List.mem_filter.2 ⟨by simp,by simpa using h⟩)))
                exact hk3.mono fun j _ h=>List.mem_append_right _ (List.mem_append_right _ (List.mem_append_right _ h))
              · refine ⟨⟨hY2.ne,at5 c4.y (by omega) (by omega),es5,at5 m51 (by omega) (by omega),m52⟩,at5 k03 (by omega) (by omega),at5 k13 (by omega) (by omega),at5 k33 (by omega) (by omega),at5 kd3 (by omega) (by omega),at5 kl3 (by omega) (by omega),_,h2',?_⟩
                rw[hfil]
                have hne:=List.append_ne_nil_of_right_ne_nil ws (show [(⟨s,Clm.logOf c n pack counts s⟩:Clm.Way)]≠[] by simp)
                have:=Lst.some (n:=n) (pack:=pack) (lo:=H.length+8) (G:=hp') (G3.length+2) (ws++[⟨s,Clm.logOf c n pack counts s⟩]) (by omega) (by rw[hnew,List.flatMap_append,List.flatMap_cons,hway,List.flatMap_nil];simp[hcs]) hne
                simpa using this)
        obtain ⟨b,e,hp,tc,H',c1,c2,⟨c3,c4,c5,W',c6,c7⟩,c8⟩:=hround
        subst c3
        have hb:b=true:=c2.2 rfl
        subst hb
        rw[if_pos rfl] at c8
        have hsm:=c8.same c5
        refine ⟨true,H',_,W',c1,by simp,?_,c8.kp,c6,fun _=>?_,fun h=>by cases h⟩
        · intro j hj
          simp only[List.mem_cons] at hj
          simp only[List.mem_append,List.mem_cons,List.not_mem_nil,or_false]
          rcases hj with h|h
          · omega
          · rcases c4 j h with h|h|h|h
            · omega
            · omega
            · omega
            · exact .inr h
        · obtain ⟨lv',m1,m2⟩:=c7.b2
          obtain ⟨es5,m51,m52⟩:=c7.yd.m
          refine ⟨⟨hY.ne,(hsm _ (by omega)).trans c7.yd.y,es5,(hsm _ (by omega)).trans m51,m52⟩,(hsm _ (by omega)).trans c7.b0,(hsm _ (by omega)).trans c7.b1,(hsm _ (by omega)).trans c7.b3,(hsm _ (by omega)).trans c7.bd,c8.here,lv',(hsm _ (by omega)).trans m1,?_⟩
          generalize filt c n pack counts (d++[s])=ws at m2 ⊢
          cases m2 with
          |none=>exact .none
          |some b ws z1 z2 z3=>exact .some b ws z1 ((hsm _ (by omega)).trans z2) z3
    have hwalk:=zbo (n:=m+1) (first:=[]) (captured:=[.ptr (H.length+4) 0,.ptr (H.length+5) 0,.ptr (H.length+6) 0]) (args:=[.yield (H.length+8)]) hC h96.ext h96.exth h96.fns h96.whole (Nat.le_of_ble_eq_true rfl)
      (zrl C hC (Ev.call C (m + 1)) c hc H1 yb _ hY1.y n hn pack (H.length + 4) (H.length + 5) (H.length + 6) (H.length + 8) (by rw [hH1]; simp) (by rw [hH1]; simp) (by rw [hH1]; simp) [mb, H.length + 2, H.length + 8] (WJ c n pack counts yb mb H.length r) (fun _ _ => False)
        (by rw[hlen1];intro j hj;simp at hj;omega) (by simp;omega) (by simp;omega) hJ0 hstep)
    obtain ⟨v,hp,tc,H2,e1,⟨e2,e3,e4,e5⟩,e6,e7,_⟩:=hwalk
    obtain ⟨W,w1,w2⟩:∃ W,(∀ j∈W,H1.length<j)∧WJ c n pack counts yb mb H.length r (Clm.sizes c.piles[n]) W hp:=by
      rcases e5 with h|⟨d,_,h⟩
      · exact h
      · exact h.elim
    have hways:filt c n pack counts (Clm.sizes c.piles[n])=Clm.ways c n pack counts:=by unfold filt Clm.ways;rw[List.getD_eq_getElem?_getD,hgn];rfl
    have hsame:=e6.same e4
    have at2:∀ {j x},j<H1.length→hp[j]?=some x→H2[j]?=some x:=fun hj hx=>(hsame _ hj).trans hx
    obtain ⟨lv,l1,l2⟩:=w2.b2
    rw[hways] at l2
    have l3:Lst n pack (H.length+8) H2 W (Clm.ways c n pack counts) lv:=by
      generalize Clm.ways c n pack counts=ws at l2 ⊢
      cases l2 with
      |none=>exact .none
      |some b ws q1 q2 q3=>
        refine .some b _ q1 ?_ q3
        have htc:tc≠[]:=by
          intro ht
          have:=e4.get (H.length+2) (by omega) (by rw[ht];simp)
          rw[l1,hH1] at this
          simp at this
        rw[(e7 (.inr htc)).2 b (by omega)];exact q2
    obtain ⟨es2,m1,m2⟩:=w2.yd.m
    have hlen2:H1.length≤H2.length:=e6.len
    have gl:=at2 (by omega) w2.bl
    refine ⟨.ret v,H2,tc,by rw[hH1] at e1;simpa using e1,r,gl,by rw[rs];simp,?_⟩
    rw[rq]
    obtain ⟨G,hG⟩:∃ G,G=H2.set (H.length+8) .dead:=⟨_,rfl⟩
    have atG:∀ {j x},j<H.length+8→hp[j]?=some x→G[j]?=some x:=fun hj hx=>by
      rw[hG,List.getElem?_set_ne (by omega)];exact at2 (by omega) hx
    have g2:=bk' (atG (by omega) l1)
    have gd:=bk' (atG (by omega) w2.bd)
    have hYG:Yd c yb mb G:=by
      obtain ⟨es2,m1,m2⟩:=w2.yd.m
      exact ⟨hY.ne,atG (by omega) w2.yd.y,es2,atG (by omega) m1,m2⟩
    have hlenG:H.length+9≤G.length:=by rw[hG];simp;omega
    have hKG:Kp (tc.filter (·<H.length)) H G:=by
      refine ⟨by omega,fun b hb hs=>?_⟩
      rw[hG,List.getElem?_set_ne (by omega),hsame _ (by omega),e4.get b (by omega) (fun h=>hs (List.mem_filter.2 ⟨h,by simpa using hb⟩)),hH1,List.getElem?_append_left hb]
    have htc:∀ j∈tc.filter (·<H.length),j=mb:=by
      intro j hj
      obtain ⟨j1,j2⟩:=List.mem_filter.1 hj
      have:=e3 j j1
      simp at this j2
      omega
    have l4:Lst n pack (H.length+8) G W (Clm.ways c n pack counts) lv:=by
      generalize Clm.ways c n pack counts=ws at l3 ⊢
      cases l3 with
      |none=>exact .none
      |some b ws q1 q2 q3=>exact .some b _ q1 (by rw[hG,List.getElem?_set_ne (by omega)];exact q2) q3
    have hlv:lv=.nils∨∃ b k,lv=.sl b 0 k 19:=by
      generalize Clm.ways c n pack counts=ws at l4
      cases l4 with
      |none=>exact .inl rfl
      |some b ws q1 q2 q3=>exact .inr ⟨b,_,rfl⟩
    obtain ⟨f0,f1,f2,f3,f4,f5⟩:=g2
    obtain ⟨d0,d1,d2,d3,d4,d5⟩:=gd
    rw[← hG]
    have HF:=hideP (And.intro hYG (And.intro hKG (And.intro htc (And.intro l4 hlenG))))
    clear hYG hKG htc l4 hlenG l3 l2 l1 w2 w1 e1 e2 e3 e4 e5 e6 e7 hsame at2 atG hG gl hJ0 hstep hY1 hH1 hlen1 hlen2 ra rb rt rp rs rq hY hm hes hSz hLog hSome
    simp only[OutB,Then,Option.getD_none,List.append_nil]
    have hback:∀ X,X=G.set (H.length+2) (.cells [lv])→X=G:=by
      rintro X rfl
      refine List.ext_getElem? fun j=>?_
      rw[List.getElem?_set]
      split
      · rename_i h;subst h;rw[f1];first|done|simp[f0]
      · rfl
    have hn3:∀ n,¬ H.length+n<H.length:=by omega
    have HB:=hideP hback
    clear hback
    have hdone:∀ G',G'=G→Ends C H.length [ARes.cell 8 none] (fun v hp tc=>(∀ j∈tc,j=mb)∧Kp tc H hp∧Yd c yb mb hp∧WaysV n pack hp H.length v (Clm.ways c n pack counts)) AExit.ret { tm:=tmA 33 [(32,lv),(15,.fn (.func 106) [] [.ptr (H.length+4) 0,.ptr (H.length+5) 0,.ptr (H.length+6) 0]),(14,.int .i64 pack),(13,.int .i64 n),(12,.ptr yb 0),(9,.ptr (H.length+3) 0),(8,.ptr (H.length+2) 0),(7,.ptr (H.length+1) 0),(4,.ptr H.length 0),(3,.int .u64 counts),(2,.int .i64 pack),(1,.int .i64 n),(0,.ptr yb 0)],df:=[.mark (H.length+7)],hp:=G',tc:=tc.filter (·<H.length) }:=by
      rintro G' rfl
      obtain ⟨k1,k2,k3,k4,k5⟩:=HF.out
      refine zfy (v:=lv) (.inl rfl) rfl d1 (by omega) (by show H.length≤G'.length;omega) ?_ ⟨k3,?_,?_,?_⟩
      · simp only[resL,resOf,zal]
        simp[pickC,resV,List.getElem?_set_ne,f1]
      · exact k2.set _ _ (by omega)
      · exact k1.kp ((Kp.refl [H.length+7] G').set _ _ (by simp)) (by simp<;>omega) (by simp<;>omega)
      · generalize Clm.ways c n pack counts=ws at k4 ⊢
        cases k4 with
        |none=>exact .none
        |some b ws q1 q2 q3=>exact .some b ws (by omega) (by rw[List.getElem?_set_ne (by omega)];exact q2) q3
    have HD:=hideP hdone
    clear hdone HF
    rcases hlv with rfl|⟨b,k,rfl⟩
    · (repeat (first|(with_reducible apply zad;(focus ((conv=>lhs;simp[*,Nat.testBit_eq_decide_div_mod_eq])<;>exact rfl));simp only[addFl])|((with_reducible first|apply zai|apply zak|apply zah|apply zaf|apply zac|apply zaj|apply zag|apply zam|(apply zae;· simp[*,zaa])|(apply zab;· simp[*,zaa]));try simp only[Then,Ops])|simp only[Nat.reduceEqDiff,reduceIte,OutB,Then]))
      refine HD.out _ (HB.out _ ?_)
      rfl
    · (repeat (first|(with_reducible apply zad;(focus ((conv=>lhs;simp[*,Nat.testBit_eq_decide_div_mod_eq])<;>exact rfl));simp only[addFl])|((with_reducible first|apply zai|apply zak|apply zah|apply zaf|apply zac|apply zaj|apply zag|apply zam|(apply zae;· simp[*,zaa])|(apply zab;· simp[*,zaa]));try simp only[Then,Ops])|simp only[Nat.reduceEqDiff,reduceIte,OutB,Then]))
      refine HD.out _ (HB.out _ ?_)
      rfl
end K
end Ev
end Go.Proofs.YtimgnlellflciaaGreat

/- Package clamp, gone through: the packs with which there is a truth, yielded. -/
namespace Go.Proofs.YtimgnlellflciaaGreat
open Go
namespace Ev
namespace K
attribute [local simp] ev1 wantG spineK spine float xnew xval xeff zaa zar zbb zau zav addFl cellsOf pickC alive slLen slFt binI maxA maxK minA minK aeqK aeqS AV.cells spA zas fillA setAt bitsI nat_nn zbe AV.plain apart
set_option maxRecDepth 100000
set_option maxHeartbeats 4000000
def WaysC (call:CallF)(c:Clm.Cl):Prop:=∀ (H:List AB) (yb mb:Nat),Yd c yb mb H→∀ n,n<c.piles.length→∀ pack,0≤pack→pack≤5→∀ counts:Nat,
  ∃ v H' tc,call (.fn (.func 95) [] []) [.ptr yb 0,.int .i64 n,.int .i64 pack,.int .u64 counts] H=some (.ret v,H',tc)∧(∀ j∈tc,j=mb)∧Kp tc H H'∧Yd c yb mb H'∧WaysV n pack H' H.length v (Clm.ways c n pack counts)
def okPack (c:Clm.Cl)(counts:Nat)(k:Int):Bool:=(List.range c.piles.length).all fun i=>!(Clm.ways c i k counts).isEmpty
def packsTo (c:Clm.Cl)(counts:Nat)(i:Nat):List Int:=((Clm.spanL c.pack).take i).filter (okPack c counts)
theorem zmh (c:Clm.Cl)(counts:Nat):packsTo c counts (Clm.spanL c.pack).length=Clm.packs c counts:=by unfold packsTo Clm.packs;rw[List.take_length];rfl
theorem zgo {c:Clm.Cl}{counts i:Nat}{k:Int}(h:(Clm.spanL c.pack)[i]?=some k):packsTo c counts (i+1)=packsTo c counts i++if okPack c counts k then [k] else []:=by
  unfold packsTo
  rw[List.take_add_one,h,List.filter_append]
  congr 1
  simp only[Option.toList_some,List.filter_cons,List.filter_nil]
theorem zve {c:Clm.Cl}{counts i:Nat}{k:Int}(h:(Clm.spanL c.pack)[i]?=some k)(hk:okPack c counts k=true):packsTo c counts i++[k] <+: Clm.packs c counts:=by
  have e:=zgo (counts:=counts) h
  rw[if_pos hk] at e
  rw[← e,← zmh]
  unfold packsTo
  have hi:=(List.getElem?_eq_some_iff.1 h).1
  refine ⟨((Clm.spanL c.pack).drop (i+1)).filter (okPack c counts),?_⟩
  rw[← List.filter_append,List.take_append_drop,List.take_length]
theorem zsd (C:Cfg)(hC:C.calm=true)(call:CallF)(c:Clm.Cl)(hc:Clm.Fine c)(hW:WaysC call c)(H:List AB)(yb mb:Nat)(counts:Nat)(b1 b2 l:Nat)
    (h1:H[b1]?=some (.cells [.ptr yb 0])) (h2:H[b2]?=some (.cells [.int .u64 counts])) (T:List Nat) (J:List Int→List Nat→List AB→Prop) (E:List Int→List AB→Prop)
    (hT:∀ j∈T,j<H.length) (hlT:l∈T) (hb1:b1∉T) (hb2:b2∉T) (hm1:b1≠mb) (hm2:b2≠mb) (hJ0:J [] [] H) (hJY:∀ d W G,J d W G→Yd c yb mb G)
    (hY:Yields call l T (fun k=>.int .i64 k) (Clm.packs c counts) [mb] (Yd c yb mb) J E):
    Does (ev C call H.length none af99.body { tm:=tmA af99.ntmps (zipI 0 [.yield l,.ptr b1 0,.ptr b2 0] []),df:=[],hp:=H,tc:=[] })
      (Ends C H.length af99.res fun v hp tc=>v=.tup []∧(∀ j∈tc,j∈mb::T)∧Kp tc H hp∧((∃ W,(∀ j∈W,H.length≤j)∧J (Clm.packs c counts) W hp∧(Clm.packs c counts=[]∨l∈tc))∨∃ d,d <+: Clm.packs c counts∧E d hp∧l∈tc)):=by
  have hpk:=hc.pack
  have hpn:=hc.piles
  have hnk:=Clm.span_len c.pack
  have gk:=fun i (h:i<(Clm.spanL c.pack).length)=>(List.getElem?_eq_getElem h).trans (congrArg some (Clm.span_get c.pack h))
  obtain ⟨Inv,hInv⟩:∃ Inv:List Int→List AB→List Nat→Prop,∀ d hp tc,Inv d hp tc↔(∃ W,(∀ j∈W,H.length≤j)∧Kp tc H hp∧J d W hp∧(∀ j∈tc,j∈mb::T)∧(d=[]∨l∈tc)):=⟨fun d hp tc=>_,fun d hp tc=>Iff.rfl⟩
  have hI:Inv [] H []:=(hInv _ _ _).2 ⟨[],by simp,Kp.refl _ _,hJ0,by simp,.inl rfl⟩
  have hfacts:∀ d hp tc,Inv d hp tc→Bk hp b1 (.cells [.ptr yb 0])∧Bk hp b2 (.cells [.int .u64 counts])∧Yd c yb mb hp∧Bk hp yb (.cells (clampCs c++[.map mb])):=by
    intro d hp tc hi
    obtain ⟨W,k0,k1,k2,k3,k9⟩:=(hInv _ _ _).1 hi
    refine ⟨bk' (k1.at h1 fun h=>?_),bk' (k1.at h2 fun h=>?_),hJY _ _ _ k2,bk' (hJY _ _ _ k2).y⟩
    · rcases List.mem_cons.1 (k3 _ h) with h|h
      · exact hm1 h
      · exact hb1 h
    · rcases List.mem_cons.1 (k3 _ h) with h|h
      · exact hm2 h
      · exact hb2 h
  have hways:∀ d hp tc,Inv d hp tc→∀ n,n<c.piles.length→∀ pack,0≤pack→pack≤5→∃ v hp' tc',call (.fn (.func 95) [] []) [.ptr yb 0,.int .i64 n,.int .i64 pack,.int .u64 counts] hp=some (.ret v,hp',tc')∧Inv d hp' (tc'.filter (·<H.length)++tc)∧((v=.nils∧Clm.ways c n pack counts=[])∨∃ b cs k,v=.sl b 0 (k+1) 19∧Bk hp' b (.cells cs)∧Clm.ways c n pack counts≠[]):=by
    intro d hp tc hi n hn pack p0 p1
    obtain ⟨W,k0,k1,k2,k3,k9⟩:=(hInv _ _ _).1 hi
    obtain ⟨v,hp',tc',s1,s2,s3,s4,s5⟩:=hW hp yb mb (hJY _ _ _ k2) n hn pack p0 p1 counts
    refine ⟨v,hp',tc',s1,(hInv _ _ _).2 ⟨W,k0,k1.trans2 s3,hY.stable _ _ _ _ k2 (s3.mono fun b _ h=>by simpa using s2 b h) s4,?_,k9.imp id fun h=>List.mem_append_right _ h⟩,?_⟩
    · intro j hj
      rcases List.mem_append.1 hj with h|h
      · rw[s2 j (List.mem_filter.1 h).1];simp
      · exact k3 j h
    · generalize Clm.ways c n pack counts=ws at s5
      cases s5 with
      |none=>exact .inl ⟨rfl,rfl⟩
      |some b ws z1 z2 z3=>
        cases ws with
        |nil=>exact absurd rfl z3
        |cons w ws=>exact .inr ⟨b,_,ws.length,by simp,bk' z2,by simp⟩
  have hstep:∀ d s hp tc,Inv d hp tc→d++[s] <+: Clm.packs c counts→∃ b hp' tc',call (.yield l) [.int .i64 s] hp=some (.ret (.bool b),hp',tc')∧(b=true→Inv (d++[s]) hp' (tc'.filter (·<H.length)++tc))∧(b=false→Kp (tc'.filter (·<H.length)++tc) H hp'∧E (d++[s]) hp'∧(∀ j∈tc'.filter (·<H.length)++tc,j∈mb::T)∧l∈tc'.filter (·<H.length)++tc):=by
    intro d s hp tc hi hpre
    obtain ⟨W,k0,k1,k3,k4,_⟩:=(hInv _ _ _).1 hi
    obtain ⟨b,hp',tc',W',s1,s9,s2,s3,s6,s4,s5⟩:=hY.step d s W hp hpre k3
    have hl9:l∈tc'.filter (·<H.length)++tc:=List.mem_append_left _ (List.mem_filter.2 ⟨s9,by simpa using hT _ hlT⟩)
    have hn:∀ j∈tc'.filter (·<H.length)++tc,j∈mb::T:=by
      intro j hj
      rcases List.mem_append.1 hj with h|h
      · obtain ⟨g1,g2⟩:=List.mem_filter.1 h
        have g2:j<H.length:=by simpa using g2
        rcases List.mem_append.1 (s2 j g1) with g|g
        · exact List.mem_cons_of_mem _ g
        · have:=k0 j g;omega
      · exact k4 j h
    have hk:=k1.trans2 s3
    refine ⟨b,hp',tc',s1,fun h=>(hInv _ _ _).2 ⟨W',?_,hk,s4 h,hn,.inr hl9⟩,fun h=>⟨hk,s5 h,hn,hl9⟩⟩
    intro j hj
    have:=k1.len
    rcases s6 j hj with h|h
    · exact k0 j h
    · omega
  obtain ⟨⟨f0,f1,f2,f3,f4,f5⟩,⟨g0,g1,g2,g3,g4,g5⟩,hYd,⟨y0,y1,y2,y3,y4,y5⟩⟩:=hfacts _ _ _ hI
  have HW:=hideP hways
  have HSt:=hideP hstep
  have HFa:=hideP hfacts
  have HI:=hideP hInv
  clear hways hstep hfacts hInv hY hJY hW hc hJ0 h1 h2
  unfold af99
  simp only[zipI,clampCs,List.cons_append,List.nil_append] at *
  (repeat (first|(with_reducible apply zad;(focus ((conv=>lhs;simp[*,Nat.testBit_eq_decide_div_mod_eq])<;>exact rfl));simp only[addFl])|((with_reducible first|apply zai|apply zak|apply zah|apply zaf|apply zac|apply zaj|apply zag|apply zam|(apply zae;· simp[*,zaa])|(apply zab;· simp[*,zaa]));try simp only[Then,Ops])|simp only[Nat.reduceEqDiff,reduceIte,OutB,Then]))
  with_reducible refine zaz hC (Clm.spanL c.pack).length (by unfold fuelL;omega) (fun i st=>∃ hp tc,Inv (packsTo c counts i) hp tc∧st={ tm:=tmA 43 [(4,.int .i64 (c.pack.lo+i)),(2,.ptr b2 0),(1,.ptr b1 0),(0,.yield l)],df:=[],hp:=hp,tc:=tc }) ?_ ?_ ?_
  · refine ⟨_,_,hI,?_⟩
    refine st_is ?_ rfl rfl rfl
    simp[zan,zaq]
  · clear f0 f1 f2 f3 f4 f5 g0 g1 g2 g3 g4 g5 hYd y0 y1 y2 y3 y4 y5 hI
    rintro i st hi ⟨hp,tc,hV,rfl⟩
    obtain ⟨⟨f0,f1,f2,f3,f4,f5⟩,⟨g0,g1,g2,g3,g4,g5⟩,hYd,⟨y0,y1,y2,y3,y4,y5⟩⟩:=HFa.out _ _ _ hV
    have e1:c.pack.lo+(i:Int)≤c.pack.hi:=by omega
    have hw:IntKind.i64.wrap (c.pack.lo+↑i+1)=c.pack.lo+↑i+1:=zat (by omega) (by omega)
    (repeat (first|(with_reducible apply zad;(focus ((conv=>lhs;simp[*,Nat.testBit_eq_decide_div_mod_eq])<;>exact rfl));simp only[addFl])|((with_reducible first|apply zai|apply zak|apply zah|apply zaf|apply zac|apply zaj|apply zag|apply zam|(apply zae;· simp[*,zaa])|(apply zab;· simp[*,zaa]));try simp only[Then,Ops,OutB])|simp only[Nat.reduceEqDiff,reduceIte,OutB,Then]))
    with_reducible refine zaz hC c.piles.length (by unfold fuelL;omega) (fun j st=>∃ hp tc,Inv (packsTo c counts i) hp tc∧(∀ x,x<j→Clm.ways c x (c.pack.lo+i) counts≠[])∧st={ tm:=tmA 43 [(28,.int .i64 j),(27,.int .i64 c.piles.length),(4,.int .i64 (c.pack.lo+i)),(2,.ptr b2 0),(1,.ptr b1 0),(0,.yield l)],df:=[],hp:=hp,tc:=tc }) ?_ ?_ ?_
    · refine ⟨_,_,hV,by simp,?_⟩
      refine st_is ?_ rfl rfl rfl
      simp[zan,zaq]
    · clear hV f0 f1 f2 f3 f4 f5 g0 g1 g2 g3 g4 g5 hYd y0 y1 y2 y3 y4 y5 hp tc
      rintro j st hj ⟨hp,tc,hV,hne,rfl⟩
      obtain ⟨⟨f0,f1,f2,f3,f4,f5⟩,⟨g0,g1,g2,g3,g4,g5⟩,hYd,⟨y0,y1,y2,y3,y4,y5⟩⟩:=HFa.out _ _ _ hV
      obtain ⟨v,hp',tc',s1,s2,s3⟩:=HW.out _ _ _ hV j hj (c.pack.lo+i) (by omega) (by omega)
      have hwj:IntKind.i64.wrap (↑j+1)=↑j+1:=zat (by omega) (by omega)
      rcases s3 with ⟨rfl,e2⟩|⟨b,cs,k,rfl,⟨z0,z1,z2,z3,z4,z5⟩,e2⟩
      · (repeat (first|(with_reducible apply zad;(focus ((conv=>lhs;simp[*,Nat.testBit_eq_decide_div_mod_eq])<;>exact rfl));simp only[addFl])|((with_reducible first|apply zai|apply zak|apply zah|apply zaf|apply zac|apply zaj|apply zag|apply zam|(apply zae;· simp[*,zaa])|(apply zab;· simp[*,zaa]));try simp only[Then,Ops,OutB,reduceIte])|simp only[Nat.reduceEqDiff,reduceIte]))
        have hno:okPack c counts (c.pack.lo+i)=false:=by
          unfold okPack
          rw[List.all_eq_false]
          exact ⟨j,by simpa using hj,by rw[e2];simp⟩
        have hn:=s2
        rw[← List.append_nil (packsTo c counts i),show ([]:List Int)=if okPack c counts (c.pack.lo+i) then [c.pack.lo+(i:Int)] else [] by rw[hno];rfl,← zgo (gk i hi)] at hn
        with_reducible refine ⟨_,_,hn,?_⟩
        refine st_is ?_ rfl rfl rfl
        simp[zan,zaq,Int.add_assoc]
      · have hk:¬ ((k:Int)+1=0):=by omega
        (repeat (first|(with_reducible apply zad;(focus ((conv=>lhs;simp[*,Nat.testBit_eq_decide_div_mod_eq])<;>exact rfl));simp only[addFl])|((with_reducible first|apply zai|apply zak|apply zah|apply zaf|apply zac|apply zaj|apply zag|apply zam|(apply zae;· simp[*,zaa])|(apply zab;· simp[*,zaa]));try simp only[Then,Ops,OutB])|simp only[Nat.reduceEqDiff,reduceIte,OutB,Then]))
        have hne':∀ x,x<j+1→Clm.ways c x (c.pack.lo+i) counts≠[]:=by
          intro x hx
          by_cases h:x=j
          · rw[h];exact e2
          · exact hne x (by omega)
        with_reducible refine ⟨_,_,s2,hne',?_⟩
        refine st_is ?_ rfl rfl rfl
        simp[zan,zaq]
    · clear hV f0 f1 f2 f3 f4 f5 g0 g1 g2 g3 g4 g5 hYd y0 y1 y2 y3 y4 y5 hp tc
      rintro st ⟨hp,tc,hV,hne,rfl⟩
      have hyes:okPack c counts (c.pack.lo+i)=true:=by
        unfold okPack
        rw[List.all_eq_true]
        intro x hx
        have:=hne x (by simpa using hx)
        simpa using this
      have hpre:=zve (gk i hi) hyes
      obtain ⟨b,hp',tc',s1,s2,s3⟩:=HSt.out _ _ _ _ hV hpre
      have HS:=hideP (And.intro hpre (And.intro s2 s3))
      clear s2 s3 hpre hV hne
      cases b with
      |true=>
        (repeat (first|(with_reducible apply zad;(focus ((conv=>lhs;simp[*,Nat.testBit_eq_decide_div_mod_eq])<;>exact rfl));simp only[addFl])|((with_reducible first|apply zai|apply zak|apply zah|apply zaf|apply zac|apply zaj|apply zag|apply zam|(apply zae;· simp[*,zaa])|(apply zab;· simp[*,zaa]));try simp only[Then,Ops,OutB,reduceIte])|simp only[Nat.reduceEqDiff,reduceIte,OutB,Then]))
        obtain ⟨hpre,s2,s3⟩:=HS.out
        have hn:=s2 rfl
        rw[show [c.pack.lo+(i:Int)]=if okPack c counts (c.pack.lo+i) then [c.pack.lo+(i:Int)] else [] by rw[hyes];rfl,← zgo (gk i hi)] at hn
        with_reducible refine ⟨_,_,hn,?_⟩
        refine st_is ?_ rfl rfl rfl
        simp[zan,zaq,Int.add_assoc]
      |false=>
        (repeat (first|(with_reducible apply zad;(focus ((conv=>lhs;simp[*,Nat.testBit_eq_decide_div_mod_eq])<;>exact rfl));simp only[addFl])|((with_reducible first|apply zai|apply zak|apply zah|apply zaf|apply zac|apply zaj|apply zag|apply zam|(apply zae;· simp[*,zaa])|(apply zab;· simp[*,zaa]));try simp only[Then,Ops,OutB,reduceIte])|simp only[Nat.reduceEqDiff,reduceIte,OutB,Then]))
        obtain ⟨hpre,s2,s3⟩:=HS.out
        obtain ⟨t1,t2,t3,t4⟩:=s3 rfl
        exact zao (.inl rfl) rfl t1.len (by simp only[resL];rfl) ⟨rfl,t3,t1,.inr ⟨_,hpre,t2,t4⟩⟩
  · clear f0 f1 f2 f3 f4 f5 g0 g1 g2 g3 g4 g5 hYd y0 y1 y2 y3 y4 y5 hI
    rintro st ⟨hp,tc,hV,rfl⟩
    obtain ⟨⟨f0,f1,f2,f3,f4,f5⟩,⟨g0,g1,g2,g3,g4,g5⟩,hYd,⟨y0,y1,y2,y3,y4,y5⟩⟩:=HFa.out _ _ _ hV
    rw[zmh] at hV
    obtain ⟨W,t0,t1,t2,t3,t4⟩:=(HI.out _ _ _).1 hV
    have e3:¬ (c.pack.lo+((Clm.spanL c.pack).length:Int)≤c.pack.hi):=by omega
    clear hnk
    (repeat (first|(with_reducible apply zad;(focus ((conv=>lhs;simp[*,Nat.testBit_eq_decide_div_mod_eq])<;>exact rfl));simp only[addFl])|((with_reducible first|apply zai|apply zak|apply zah|apply zaf|apply zac|apply zaj|apply zag|apply zam|(apply zae;· simp[*,zaa])|(apply zab;· simp[*,zaa]));try simp only[Then,Ops,OutB,reduceIte])|simp only[Nat.reduceEqDiff,reduceIte,OutB,Then]))
    exact zao (.inr rfl) rfl t1.len (by simp only[resL];rfl) ⟨rfl,t3,t1,.inl ⟨W,t0,t2,t4⟩⟩
end K
end Ev
end Go.Proofs.YtimgnlellflciaaGreat

/- Package clamp, gone through: is there a truth? -/
namespace Go.Proofs.YtimgnlellflciaaGreat
open Go
namespace Ev
namespace K
attribute [local simp] ev1 wantG spineK spine float xnew xval xeff zaa zar zbb zau zav addFl cellsOf pickC alive slLen slFt binI maxA maxK minA minK aeqK aeqS AV.cells spA zas fillA setAt bitsI nat_nn zbe AV.plain apart
set_option maxRecDepth 100000
set_option maxHeartbeats 4000000
theorem zuj {G:List AB}{l:Nat}(x:AB)(hl:l<G.length):∃ G2,G2=G.set l x∧G2.length=G.length∧G2[l]?=some x∧(∀ j,j≠l→G2[j]?=G[j]?)∧Kp [l] G G2:=
  ⟨_,rfl,by simp,List.getElem?_set_self hl,fun j hj=>List.getElem?_set_ne (by omega),(Kp.refl [l] G).set _ _ (by simp)⟩
def PkPre (yb mb counts b1 b2:Nat)(H:List AB)(T:List Nat):Prop:=H[b1]?=some (.cells [.ptr yb 0])∧H[b2]?=some (.cells [.int .u64 counts])∧b1∉T∧b2∉T∧b1≠mb∧b2≠mb
def PackI (C:Cfg)(n:Nat)(c:Clm.Cl):Prop:=∀ yb mb counts b1 b2,IterC C n 99 [] [.ptr b1 0,.ptr b2 0] (fun k:Int=>.int .i64 k) (Clm.packs c counts) [mb] (Yd c yb mb) (PkPre yb mb counts b1 b2)
theorem zvg {C:Cfg}(hC:C.calm=true){n:Nat}{c:Clm.Cl}(hc:Clm.Fine c)(h90:Has C 99 af99)(hW:WaysC (Ev.call C n) c):PackI C n c:=by
  intro yb mb counts b1 b2
  refine zwf hC h90.ext h90.exth h90.fns h90.whole (Nat.le_of_ble_eq_true rfl) ?_
  intro H l T J E ⟨p1,p2,p3,p4,p5,p6⟩ h2 h3 h4 h5 h6
  exact zsd C hC _ c hc hW H yb mb counts b1 b2 l p1 p2 T J E h2 h3 p3 p4 p5 p6 h4 h5 h6
def PacksC (call:CallF):Prop:=∀ (H:List AB) (yb counts:Nat),call (.fn (.func 92) [] []) [.ptr yb 0,.int .u64 counts] H=some (.ret (.fn (.func 99) [] [.ptr H.length 0,.ptr (H.length+1) 0]),H++[.cells [.ptr yb 0],.cells [.int .u64 counts]],[])
theorem yaa (C:Cfg)(hC:C.calm=true)(n:Nat)(c:Clm.Cl)(hP:PacksC (Ev.call C (n+2)))(hI:PackI C (n+1) c)(H:List AB)(yb mb:Nat)(hY:Yd c yb mb H)(counts:Nat):
    Does (ev C (Ev.call C (n+2)) H.length none af66.body { tm:=tmA af66.ntmps (zipI 0 [.ptr yb 0,.int .u64 counts] []),df:=[],hp:=H,tc:=[] })
      (Ends C H.length af66.res fun v hp tc=>v=.bool (Clm.can c counts)∧(∀ j∈tc,j=mb)∧Kp tc H hp∧Yd c yb mb hp):=by
  unfold PacksC at hP
  have hyl:=get_lt hY.y
  obtain ⟨es,hm,hes⟩:=hY.m
  have hml:=get_lt hm
  unfold af66
  simp only[zipI]
  (repeat (first|(with_reducible apply zad;(focus ((conv=>lhs;simp[*,Nat.testBit_eq_decide_div_mod_eq])<;>exact rfl));simp only[addFl])|((with_reducible first|apply zai|apply zak|apply zah|apply zaf|apply zac|apply zaj|apply zag|apply zam|(apply zae;· simp[*,zaa])|(apply zab;· simp[*,zaa]));try simp only[Then,Ops])|simp only[Nat.reduceEqDiff,reduceIte,OutB,Then]))
  have hn3:∀ n,¬ H.length+n<H.length:=by omega
  have hn4:¬ H.length<H.length:=by omega
  refine znc hC (hI yb mb counts (H.length+1) (H.length+2)) (by simp[zaa]) rfl [H.length] (by simp) (by simp;omega)
    (fun d W G=>d=[]∧W=[]∧G[H.length]?=some (.cells [.bool false])) (fun e d G=>e=.ret∧d≠[]∧G[H.length]?=some (.cells [.bool true]))
    (fun r=>?_) (fun G G' h k=>?_) (fun r=>?_) (fun r=>?_) (fun d W G G' h k=>?_) (fun e d G G' h k=>?_) ?_ ?_ ?_
  · refine ⟨by simp,by simp,by simp<;>omega,by simp<;>omega,by omega,by omega⟩
  · obtain ⟨es,m1,m2⟩:=h.m
    refine ⟨h.ne,(k _ (by simp;omega)).trans h.y,es,(k _ (by simp;omega)).trans m1,m2⟩
  · refine ⟨rfl,rfl,by simp⟩
  · exact (hY.app _).app _
  · refine ⟨h.1,h.2.1,(k _ (get_lt h.2.2) (by simp;omega) (by simp<;>omega)).trans h.2.2⟩
  · refine ⟨h.1,h.2.1,(k _ (by simp<;>omega)).trans h.2.2⟩
  · rintro d s W G rz hpr ⟨rfl,rfl,h1⟩ h2 h3 h4
    rw[setP1]
    simp only[List.length_append,List.length_cons,List.length_nil,Nat.zero_add,Nat.add_assoc,Nat.reduceAdd] at h3 ⊢
    (repeat (first|(with_reducible apply zad;(focus ((conv=>lhs;simp[*,Nat.testBit_eq_decide_div_mod_eq])<;>exact rfl));simp only[addFl])|((with_reducible first|apply zai|apply zak|apply zah|apply zaf|apply zac|apply zaj|apply zag|apply zam|(apply zae;· simp[*,zaa])|(apply zab;· simp[*,zaa]));try simp only)|simp only[Nat.reduceEqDiff,reduceIte,OutB,Then]))
    refine ⟨trivial,trivial,?_⟩
    obtain ⟨G2,hG2,k1,k2,k3,k4⟩:=zuj (G:=G) (l:=H.length+4) (.loop rz) (by omega)
    rw[← hG2]
    clear hG2
    have e1:=(k3 H.length (by omega)).trans h1
    have hYd2:Yd c yb mb G2:=h2.kp k4 (by simp<;>omega) (by simp<;>omega)
    obtain ⟨f0,f1,f2,f3,f4,f5⟩:=bk' e1
    clear hY hm hP hI
    (repeat (first|(with_reducible apply zad;(focus ((conv=>lhs;simp[*,Nat.testBit_eq_decide_div_mod_eq])<;>exact rfl));simp only[addFl])|((with_reducible first|apply zai|apply zak|apply zah|apply zaf|apply zac|apply zaj|apply zag|apply zam|(apply zae;· simp[*,zaa])|(apply zab;· simp[*,zaa]));try simp only[Then,Ops,OutB])|simp only[Nat.reduceEqDiff,reduceIte,OutB,Then]))
    refine ⟨by simp,?_,by simp;omega,?_,?_,?_,by simp,fun _=>⟨rfl,by simp,?_⟩⟩
    · rw[List.getElem?_set_ne (by omega)];exact k2
    · intro j hj
      simp only[List.mem_append,List.mem_filter,List.mem_singleton] at hj
      rcases hj with ⟨h,_⟩|h
      · exact .inr (.inl (by simp[h]))
      · exact .inl h
    · exact (k4.mono fun b _ h=>List.mem_append_right _ h).set _ _ (fun h=>by simp[h])
    · exact hYd2.kp ((Kp.refl [H.length] G2).set _ _ (by simp)) (by simp<;>omega) (by simp<;>omega)
    · rw[List.getElem?_set_self (by omega)]
  · rintro H' tc W h1 h2 h3 h4 h5 h6 ⟨h7,h8,h9⟩
    simp only[List.length_append,List.length_cons,List.length_nil,Nat.zero_add,Nat.add_assoc,Nat.reduceAdd] at h1 h4 h5 ⊢
    have hcan:Clm.can c counts=false:=by unfold Clm.can;rw[h7];rfl
    have hkp:=h2.pre
    have htc:∀ j∈tc.filter (·<H.length),j=mb:=by
      intro j hj
      obtain ⟨q1,q2⟩:=List.mem_filter.1 hj
      have q2:j<H.length:=by simpa using q2
      have:=h1 j q1 (by omega)
      simp at this
      omega
    have hkp2:Kp (tc.filter (·<H.length)) H H':=hkp.mono fun b hb h=>List.mem_filter.2 ⟨h,by simpa using hb⟩
    obtain ⟨f0,f1,f2,f3,f4,f5⟩:=bk' h9
    have HQ:=hideP (And.intro htc (And.intro hkp2 h3))
    clear htc hkp2 h3 h1 h2 hkp hY hm hP hI h6
    simp only[List.append_nil]
    (repeat (first|(with_reducible apply zad;(focus ((conv=>lhs;simp[*,Nat.testBit_eq_decide_div_mod_eq])<;>exact rfl));simp only[addFl])|((with_reducible first|apply zai|apply zak|apply zah|apply zaf|apply zac|apply zaj|apply zag|apply zam|(apply zae;· simp[*,zaa])|(apply zab;· simp[*,zaa]));try simp only[Then,Ops])|simp only[OutB,Then]))
    obtain ⟨q1,q2,q3⟩:=HQ.out
    have hset:∀ {S},Kp S H H'→Kp S H ((H'.set H.length (.cells [.bool false])).set (H.length+3) .dead):=fun k=>(k.set _ _ (by omega)).set _ _ (by omega)
    refine zfy (.inl rfl) rfl (by rw[List.getElem?_set_ne (by omega)];exact h4) (by omega) (by simp;omega) (by simp only[resL,resOf,zal];simp[resV,pickC,f0];rfl) ⟨by rw[hcan],q1,hset q2,?_⟩
    exact (q3.kp ((Kp.refl [H.length] H').set _ _ (by simp)) (by simp<;>omega) (by simp<;>omega)).kp ((Kp.refl [H.length+3] _).set _ _ (by simp)) (by simp<;>omega) (by simp<;>omega)
  · rintro e d H' tc he h1 h2 h3 h4 h5 hd ⟨rfl,h8,h9⟩
    simp only[List.length_append,List.length_cons,List.length_nil,Nat.zero_add,Nat.add_assoc,Nat.reduceAdd] at h1 h4 h5 ⊢
    have hcan:Clm.can c counts=true:=by
      unfold Clm.can
      cases hp:Clm.packs c counts with
      |nil=>rw[hp] at hd;exact absurd (List.prefix_nil.1 hd) h8
      |cons a l=>rfl
    have hkp:=h2.pre
    have htc:∀ j∈tc.filter (·<H.length),j=mb:=by
      intro j hj
      obtain ⟨q1,q2⟩:=List.mem_filter.1 hj
      have q2:j<H.length:=by simpa using q2
      have:=h1 j q1 (by omega)
      simp at this
      omega
    have hkp2:Kp (tc.filter (·<H.length)) H H':=hkp.mono fun b hb h=>List.mem_filter.2 ⟨h,by simpa using hb⟩
    simp only[List.append_nil,OutB,Then]
    have hset:∀ {S},Kp S H H'→Kp S H (H'.set (H.length+3) .dead):=fun k=>k.set _ _ (by omega)
    refine zfy (.inl rfl) rfl h4 (by omega) (by simp;omega) (by simp only[resL,resOf,zal];simp[resV,pickC,List.getElem?_set_ne,h9];rfl) ⟨by rw[hcan],htc,hset hkp2,?_⟩
    exact h3.kp ((Kp.refl [H.length+3] H').set _ _ (by simp)) (by simp<;>omega) (by simp<;>omega)
end K
end Ev
end Go.Proofs.YtimgnlellflciaaGreat

/- Package clamp, gone through: small functions of a yard. -/
namespace Go.Proofs.YtimgnlellflciaaGreat
open Go
namespace Ev
namespace K
attribute [local simp] ev1 wantG spineK spine float xnew xval xeff zaa zar zbb zau zav addFl cellsOf pickC alive slLen slFt binI maxA maxK minA minK aeqK aeqS AV.cells spA zas fillA setAt bitsI nat_nn zbe AV.plain apart
set_option maxRecDepth 100000
set_option maxHeartbeats 4000000
theorem zpz {C:Cfg}{n f:Nat}{fn:AFunc}{first captured args:List AV}{H K:List AB}{v:AV}(hc:C.calm=true)(h0:Has C f fn)(hlen:(first++args++captured).length≤fn.ntmps)(hv:refs v≠[])
    (h:Does (ev C (Ev.call C n) H.length none fn.body { tm:=tmA fn.ntmps (zipI 0 (first++args++captured) []),df:=[],hp:=H,tc:=[] }) (Ends C H.length fn.res fun w hp tc=>w=v∧hp=H++K∧tc=[])):
    Ev.call C (n+1) (.fn (.func f) first captured) args H=some (.ret v,H++K,[]):=by
  obtain ⟨w,hp,tc,H',c1,⟨rfl,rfl,rfl⟩,c5,c6,_⟩:=zbo hc h0.ext h0.exth h0.fns h0.whole hlen h
  rw[c1,lft_eq c5 (Kp.app _ _) c6 (.inl hv)]
theorem zax {C:Cfg}{n f:Nat}{fn:AFunc}{first captured args:List AV}{H:List AB}{v:AV}(hc:C.calm=true)(h0:Has C f fn)(hlen:(first++args++captured).length≤fn.ntmps)(hv:refs v=[])
    (h:Does (ev C (Ev.call C n) H.length none fn.body { tm:=tmA fn.ntmps (zipI 0 (first++args++captured) []),df:=[],hp:=H,tc:=[] }) (Ends C H.length fn.res fun w _hp tc=>w=v∧tc=[])):
    Ev.call C (n+1) (.fn (.func f) first captured) args H=some (.ret v,H,[]):=by
  obtain ⟨w,hp,tc,H',c1,⟨rfl,rfl⟩,_,_,c7⟩:=zbo hc h0.ext h0.exth h0.fns h0.whole hlen h
  rw[c1,c7 hv rfl]
theorem zug (C:Cfg)(call:CallF)(H:List AB)(yb:Nat)(n pack:Int):Does (ev C call H.length none af102.body { tm:=tmA af102.ntmps (zipI 0 [.ptr yb 0,.int .i64 n,.int .i64 pack] []),df:=[],hp:=H,tc:=[] })
    (Ends C H.length af102.res fun w hp tc=>w=.fn (.func 106) [] [.ptr H.length 0,.ptr (H.length+1) 0,.ptr (H.length+2) 0]∧hp=H++[.cells [.ptr yb 0],.cells [.int .i64 n],.cells [.int .i64 pack]]∧tc=[]):=by
  unfold af102
  simp only[zipI]
  (repeat (first|(with_reducible apply zad;(focus ((conv=>lhs;simp[*,Nat.testBit_eq_decide_div_mod_eq])<;>exact rfl));simp only[addFl])|((with_reducible first|apply zai|apply zak|apply zah|apply zaf|apply zac|apply zaj|apply zag|apply zam|(apply zae;· simp[*,zaa])|(apply zab;· simp[*,zaa]));try simp only[Then,Ops])|simp only[Nat.reduceEqDiff,reduceIte,OutB,Then]))
  exact zao (.inl rfl) rfl (by simp) (by simp only[resL,resOf,zal];simp[*,resV]) ⟨rfl,rfl,rfl⟩
theorem zvf (C:Cfg)(call:CallF)(H:List AB)(yb counts:Nat):Does (ev C call H.length none af92.body { tm:=tmA af92.ntmps (zipI 0 [.ptr yb 0,.int .u64 counts] []),df:=[],hp:=H,tc:=[] })
    (Ends C H.length af92.res fun w hp tc=>w=.fn (.func 99) [] [.ptr H.length 0,.ptr (H.length+1) 0]∧hp=H++[.cells [.ptr yb 0],.cells [.int .u64 counts]]∧tc=[]):=by
  unfold af92
  simp only[zipI]
  (repeat (first|(with_reducible apply zad;(focus ((conv=>lhs;simp[*,Nat.testBit_eq_decide_div_mod_eq])<;>exact rfl));simp only[addFl])|((with_reducible first|apply zai|apply zak|apply zah|apply zaf|apply zac|apply zaj|apply zag|apply zam|(apply zae;· simp[*,zaa])|(apply zab;· simp[*,zaa]));try simp only[Then,Ops])|simp only[Nat.reduceEqDiff,reduceIte,OutB,Then]))
  exact zao (.inl rfl) rfl (by simp) (by simp only[resL,resOf,zal];simp[*,resV]) ⟨rfl,rfl,rfl⟩
theorem zif {d:Nat}(h:d≤40):IntKind.u64.wrap (1 * 2 ^ (min ((d:Int).toNat) IntKind.u64.bits))=((2 ^ d:Nat):Int)∧IntKind.u64.wrap (2 ^ (min ((d:Int).toNat) IntKind.u64.bits))=((2 ^ d:Nat):Int)∧IntKind.u64.wrap (2 ^ (min d IntKind.u64.bits))=((2 ^ d:Nat):Int):=by
  have hb:IntKind.u64.bits=64:=rfl
  have h1:min ((d:Int).toNat) IntKind.u64.bits=d:=by rw[hb];omega
  have h1':min d IntKind.u64.bits=d:=by rw[hb];omega
  have h2:(2:Int) ^ d=((2 ^ d:Nat):Int):=by simp
  have h3:2 ^ d≤2 ^ 40:=Nat.pow_le_pow_right (by decide) h
  have h4:∀ q:Nat,q≤2 ^ 40→IntKind.u64.wrap (q:Int)=q:=by
    intro q hq
    simp[IntKind.wrap,IntKind.bits,IntKind.signed]
    omega
  rw[h1,h1',Int.one_mul,h2]
  exact ⟨h4 _ h3,h4 _ h3,h4 _ h3⟩
theorem zpe {n:Int}(h1:0≤n)(h2:n<18446744073709551616):IntKind.u64.wrap n=n:=by
  simp[IntKind.wrap,IntKind.bits,IntKind.signed]
  omega
theorem zwu (C:Cfg)(call:CallF)(c:Clm.Cl)(hc:Clm.Fine c)(H:List AB)(yb:Nat)(w:AV)(hy:H[yb]?=some (.cells (clampCs c++[w]))):Does (ev C call H.length none af67.body { tm:=tmA af67.ntmps (zipI 0 [.ptr yb 0] []),df:=[],hp:=H,tc:=[] })
    (Ends C H.length af67.res fun v _hp tc=>v=.int .u64 ((Clm.every c:Nat):Int)∧tc=[]):=by
  obtain ⟨y0,y1,y2,y3,y4,y5⟩:=bk' hy
  have hn:=hc.events
  obtain ⟨s1,s2,s3⟩:=zif (d:=c.events.length) (by omega)
  have hp:0<2 ^ c.events.length:=Nat.pow_pos (by decide)
  have hp2:2 ^ c.events.length≤2 ^ 6:=Nat.pow_le_pow_right (by decide) hn
  have hev:((Clm.every c:Nat):Int)=((2 ^ c.events.length:Nat):Int) - 1:=by unfold Clm.every;omega
  rw[hev]
  unfold af67
  simp only[zipI,clampCs,List.cons_append,List.nil_append] at *
  generalize 2 ^ c.events.length=P at *
  have hw:IntKind.u64.wrap ((P:Int) - 1)=(P:Int) - 1:=zpe (by omega) (by omega)
  clear hev hp hp2
  (repeat (first|(with_reducible apply zad;(focus ((conv=>lhs;simp[*,Nat.testBit_eq_decide_div_mod_eq])<;>exact rfl));simp only[addFl])|((with_reducible first|apply zai|apply zak|apply zah|apply zaf|apply zac|apply zaj|apply zag|apply zam|(apply zae;· simp[*,zaa])|(apply zab;· simp[*,zaa]));try simp only[Then,Ops])|simp only[Nat.reduceEqDiff,reduceIte,OutB,Then]))
  exact zao (.inl rfl) rfl (by simp) (by simp only[resL,resOf,zal];simp[*,resV]) ⟨rfl,rfl⟩
theorem zju (C:Cfg)(call:CallF)(hW:WithinC call)(c:Clm.Cl)(hc:c.piles.length≤4)(H:List AB)(yb:Nat)(w:AV)(hy:H[yb]?=some (.cells (clampCs c++[w])))(n:Int):Does (ev C call H.length none af53.body { tm:=tmA af53.ntmps (zipI 0 [.ptr yb 0,.int .i64 n] []),df:=[],hp:=H,tc:=[] })
    (Ends C H.length af53.res fun v _hp tc=>v=.bool (decide (0≤n∧n<c.piles.length))∧tc=[]):=by
  obtain ⟨y0,y1,y2,y3,y4,y5⟩:=bk' hy
  have hw:IntKind.i64.wrap ((c.piles.length:Int) - 1)=(c.piles.length:Int) - 1:=zat (by omega) (by omega)
  have e:decide (0≤n∧n<c.piles.length)=decide (0≤n∧n≤(c.piles.length:Int) - 1):=by congr 1;simp;omega
  have hW':=fun H=>hW H n 0 ((c.piles.length:Int) - 1)
  rw[e]
  clear hW e hc
  unfold af53
  simp only[zipI,clampCs,List.cons_append,List.nil_append] at *
  (repeat (first|(with_reducible apply zad;(focus ((conv=>lhs;simp[*,Nat.testBit_eq_decide_div_mod_eq])<;>exact rfl));simp only[addFl])|((with_reducible first|apply zai|apply zak|apply zah|apply zaf|apply zac|apply zaj|apply zag|apply zam|(apply zae;· simp[*,zaa])|(apply zab;· simp[*,zaa]));try simp only[Then,Ops])|simp only[Nat.reduceEqDiff,reduceIte,OutB,Then]))
  exact zao (.inl rfl) rfl (by simp) (by simp only[resL,resOf,zal];simp[*,resV]) ⟨rfl,rfl⟩
theorem zqj (C:Cfg)(call:CallF)(c:Clm.Cl)(hc:Clm.Fine c)(H:List AB)(yb:Nat)(w:AV)(hy:H[yb]?=some (.cells (clampCs c++[w])))(n:Nat)(pack:Int)(wy:Clm.Way):Does (ev C call H.length none af40.body { tm:=tmA af40.ntmps (zipI 0 [.ptr yb 0,.agg (wayCs n pack wy)] []),df:=[],hp:=H,tc:=[] })
    (Ends C H.length af40.res fun v _hp tc=>v=spA (Clm.leftW c wy)∧tc=[]):=by
  obtain ⟨y0,y1,y2,y3,y4,y5⟩:=bk' hy
  have hn:=hc.events
  unfold Clm.leftW
  have e1:(c.events.length:Int)<7:=by omega
  have e2:c.events.length<7:=by omega
  unfold af40
  simp only[zipI,clampCs,List.cons_append,List.nil_append,wayCs] at *
  have t0:=zdf (fun i=>wy.log.getD i ⟨0,0⟩)
  have t1:=zdy (fun i=>wy.log.getD i ⟨0,0⟩) e2
  generalize arr7 (fun i=>wy.log.getD i ⟨0,0⟩)=R at *
  generalize wy.log.getD c.events.length ⟨0,0⟩=sp at *
  have k1:5+c.events.length * 2+2≤19:=by omega
  have k2:List.drop (5+c.events.length * 2) (.int .i64 n::.int .i64 wy.size.l::.int .i64 wy.size.w::.int .i64 wy.size.h::.int .i64 pack::R)=List.drop (c.events.length * 2) R:=by
    rw[show 5+c.events.length * 2=c.events.length * 2+5 by omega];rfl
  clear hn hc
  (repeat (first|(with_reducible apply zad;(focus ((conv=>lhs;simp[*,Nat.testBit_eq_decide_div_mod_eq])<;>exact rfl));simp only[addFl])|((with_reducible first|apply zai|apply zak|apply zah|apply zaf|apply zac|apply zaj|apply zag|apply zam|(apply zae;· simp[*,zaa])|(apply zab;· simp[*,zaa]));try simp only[Then,Ops])|simp only[Nat.reduceEqDiff,reduceIte,OutB,Then]))
  exact zao (v:=spA sp) (.inl rfl) rfl (by simp) (by simp only[resL,resOf,zal];simp[*,pickC,resV,spA]) ⟨rfl,rfl⟩
end K
end Ev
end Go.Proofs.YtimgnlellflciaaGreat

/- Package clamp, gone through: the span of something of a clamp, with a pack. -/
namespace Go.Proofs.YtimgnlellflciaaGreat
open Go
namespace Ev
namespace K
attribute [local simp] ev1 wantG spineK spine float xnew xval xeff zaa zar zbb zau zav addFl cellsOf pickC alive slLen slFt binI maxA maxK minA minK aeqK aeqS AV.cells spA zas fillA setAt bitsI nat_nn zbe AV.plain apart
set_option maxRecDepth 100000
set_option maxHeartbeats 4000000
def EveryC (call:CallF)(c:Clm.Cl):Prop:=∀ (H:List AB) (yb:Nat) (w:AV),H[yb]?=some (.cells (clampCs c++[w]))→call (.fn (.func 67) [] []) [.ptr yb 0] H=some (.ret (.int .u64 ((Clm.every c:Nat):Int)),H,[])
def EitherC (call:CallF):Prop:=∀ (H:List AB) (s t:Clm.Sp),call (.fn (.func 94) [] []) [.agg [.int .i64 s.lo,.int .i64 s.hi],.agg [.int .i64 t.lo,.int .i64 t.hi]] H=some (.ret (.agg [.int .i64 (s.either t).lo,.int .i64 (s.either t).hi]),H,[])
def WayF (call:CallF)(F:AV)(c:Clm.Cl)(yb mb n:Nat)(pack:Int)(H0:List AB)(g:Clm.Way→Clm.Sp):Prop:=∀ G,Kp [mb] H0 G→Yd c yb mb G→∀ w∈Clm.ways c n pack (Clm.every c),call F [.agg (wayCs n pack w)] G=some (.ret (.agg [.int .i64 (g w).lo,.int .i64 (g w).hi]),G,[])
theorem way_at (n:Nat)(pack:Int):∀ (ws:List Clm.Way) (i:Nat) (w:Clm.Way),ws[i]?=some w→List.take 19 (List.drop (i * 19) (ws.flatMap (wayCs n pack)))=wayCs n pack w
  |[],i,w,h=>by simp at h
  |v::ws,0,w,h=>by
    simp at h;subst h
    rw[List.flatMap_cons,Nat.zero_mul,List.drop_zero,List.take_append_of_le_length (by rw[zeh];omega),List.take_of_length_le (by rw[zeh];omega)]
  |v::ws,i+1,w,h=>by
    have ih:=way_at n pack ws i w (by simpa using h)
    rw[List.flatMap_cons,show (i+1) * 19=(wayCs n pack v).length+i * 19 by rw[zeh];omega,← List.drop_drop,List.drop_left]
    exact ih
def foldE (g:Clm.Way→Clm.Sp)(ws:List Clm.Way)(s:Clm.Sp):Clm.Sp:=(ws.map g).foldl (fun k x=>k.either x) s
theorem zst (g:Clm.Way→Clm.Sp)(ws:List Clm.Way)(s:Clm.Sp){i:Nat}{w:Clm.Way}(h:ws[i]?=some w):foldE g (ws.take (i+1)) s=(foldE g (ws.take i) s).either (g w):=by
  unfold foldE
  rw[List.take_add_one,h];simp
theorem zub (C:Cfg)(hC:C.calm=true)(call:CallF)(c:Clm.Cl)(hc:Clm.Fine c)(hE:EveryC call c)(hW:WaysC call c)(hEi:EitherC call)(H:List AB)(yb mb:Nat)(hY:Yd c yb mb H)(n:Nat)(hn:n<c.piles.length)(pack:Int)(hp0:0≤pack)(hp1:pack≤5)(F:AV)(g:Clm.Way→Clm.Sp)(hF:WayF call F c yb mb n pack H g)(hne:Clm.ways c n pack (Clm.every c)≠[]):
    Does (ev C call H.length none af83.body { tm:=tmA af83.ntmps (zipI 0 [.ptr yb 0,.int .i64 n,.int .i64 pack,F] []),df:=[],hp:=H,tc:=[] })
      (Ends C H.length af83.res fun v hp tc=>v=spA (Clm.spanOf c n pack g)∧(∀ j∈tc,j=mb)∧Kp tc H hp∧Yd c yb mb hp):=by
  have hml:mb<H.length:=by obtain ⟨es,hm,_⟩:=hY.m;exact get_lt hm
  have hyl:=get_lt hY.y
  have hev:=fun K=>hE (H++K) yb _ (hY.app K).y
  obtain ⟨H1,tc1,c2,c3,c4,w0,ws,b,hws,c6,c7,c1⟩:∃ H1 tc1,(∀ j∈tc1,j=mb)∧Kp tc1 (H++[.cells [.int .i64 0,.int .i64 0]]) H1∧Yd c yb mb H1∧∃ w0 ws b,Clm.ways c n pack (Clm.every c)=w0::ws∧H.length+1≤b∧H1[b]?=some (.cells ((w0::ws).flatMap (wayCs n pack)))∧call (.fn (.func 95) [] []) [.ptr yb 0,.int .i64 n,.int .i64 pack,.int .u64 ((Clm.every c:Nat):Int)] (H++[.cells [.int .i64 0,.int .i64 0]])=some (.ret (.sl b 0 (ws.length+1) 19),H1,tc1):=by
    obtain ⟨v,H1,tc1,c1,c2,c3,c4,c5⟩:=hW (H++[.cells [.int .i64 0,.int .i64 0]]) yb mb (hY.app _) n hn pack hp0 hp1 (Clm.every c)
    generalize Clm.ways c n pack (Clm.every c)=wss at c5 hne
    cases c5 with
    |none=>exact absurd rfl hne
    |some b _ z1 z2 z3=>
      cases wss with
      |nil=>exact absurd rfl hne
      |cons w ws=>exact ⟨H1,tc1,c2,c3,c4,w,ws,b,rfl,by simpa using z1,z2,c1⟩
  have hw8:ws.length<fuelL∧ws.length≤1000:=by
    have h1:=zqp c n pack (Clm.every c) (Clm.sizes (c.piles.getD n default))
    have h2:=zlv hc hn
    have h3:(Clm.ways c n pack (Clm.every c)).length≤(Clm.sizes (c.piles.getD n default)).length:=h1
    rw[List.getD_eq_getElem?_getD,List.getElem?_eq_getElem hn,hws] at h3
    simp only[List.length_cons,Option.getD_some] at h3
    unfold fuelL;omega
  have hspan:Clm.spanOf c n pack g=foldE g ws (g w0):=by unfold Clm.spanOf;rw[hws];rfl
  have c3':Kp [mb] (H++[.cells [.int .i64 0,.int .i64 0]]) H1:=c3.mono fun j _ h=>by simpa using c2 j h
  have r8:H1[H.length]?=some (.cells [.int .i64 0,.int .i64 0]):=c3'.at (by simp) (by simp;omega)
  have hF1:∀ K w,w∈w0::ws→call F [.agg (wayCs n pack w)] (H1++K)=some (.ret (.agg [.int .i64 (g w).lo,.int .i64 (g w).hi]),H1++K,[]):=fun K w hw=>hF _ (c3'.pre.trans (Kp.app _ _)) (c4.app _) w (by rw[hws];exact hw)
  have hF2:=hF1 [] w0 (by simp)
  rw[List.append_nil] at hF2
  have wl:=zgw n pack (w0::ws)
  have w1:=way_at n pack (w0::ws)
  have w2:=w1 0 w0 rfl
  rw[Nat.zero_mul,List.drop_zero] at w2
  obtain ⟨x0,x1,x2,x3,x4,x5⟩:=bk' c7
  obtain ⟨y0,y1,y2,y3,y4,y5⟩:=bk' r8
  rw[hspan]
  have HA:=hideP (And.intro c2 (And.intro c3 (And.intro c4 (And.intro c3' hspan))))
  clear hE hW hF hY hne hws c2 c3 c4 c3' hspan hc c6
  simp only[List.length_cons] at wl
  generalize (w0::ws).flatMap (wayCs n pack)=cs at *
  unfold af83
  simp only[zipI] at *
  have k1:19≤(ws.length+1) * 19:=by omega
  have k3:1≤(ws.length:Int)+1:=by omega
  have n1:∀ n,¬ H1.length+n<H.length:=by omega
  have n2:¬ H1.length<H.length:=by omega
  have n4:∀ n,¬ H.length+n<H.length:=by omega
  have fin:∀ (J:List AB) (lo hi:Int),lo=(foldE g ws (g w0)).lo→hi=(foldE g ws (g w0)).hi→∀ tm:List (Nat × AV),(tmA 38 tm).getD 8 .unk=.ptr H.length 0→Ends C H.length [ARes.cell 8 (some 2)] (fun v hp tc=>v=spA (foldE g ws (g w0))∧(∀ j∈tc,j=mb)∧Kp tc H hp∧Yd c yb mb hp) AExit.ret { tm:=tmA 38 tm,df:=[],hp:=(H1++J).set H.length (.cells [.int .i64 lo,.int .i64 hi]),tc:=tc1.filter (·<H.length) }:=by
    rintro J lo hi rfl rfl tm ht
    obtain ⟨c2,c3,c4,c3',hspan⟩:=HA.out
    refine zao (v := spA (foldE g ws (g w0))) (.inl rfl) rfl (by simp; omega) (by
      simp only[resL,resOf,ht]
      rw[List.getElem?_set_self (by simp;omega)]
      simp[pickC,resV,spA]) ⟨rfl,fun j hj=>c2 j (List.mem_filter.1 hj).1,?_,?_⟩
    · refine Kp.set ?_ _ _ (by omega)
      exact (c3.pre.mono fun j hj h=>List.mem_filter.2 ⟨h,by simpa using hj⟩).trans (Kp.app _ _)
    · exact (c4.app J).kp ((Kp.refl [H.length] _).set _ _ (by simp)) (by simp<;>omega) (by simp<;>omega)
  have HF:=hideP fin
  clear fin HA
  have hset:∀ X,H1.set H.length X++[]=(H1++[]).set H.length X:=by simp
  by_cases hw:ws=[]
  · subst hw
    simp only[List.length_nil] at *
    (repeat (first|(with_reducible apply zad;(focus ((conv=>lhs;simp[*,Nat.testBit_eq_decide_div_mod_eq])<;>exact rfl));simp only[addFl])|((with_reducible first|apply zai|apply zak|apply zah|apply zaf|apply zac|apply zaj|apply zag|apply zam|(apply zae;· simp[*,zaa])|(apply zab;· simp[*,zaa]));try simp only[Then,Ops])|simp only[Nat.reduceEqDiff,reduceIte,OutB,Then]))
    refine zaz hC 0 (by decide) (fun i st=>∃ J,st={ tm:=tmA 38 [(27,.int .i64 i),(26,.int .i64 0),(25,.vs 19 []),(10,.ptr H1.length 0),(8,.ptr H.length 0),(3,F)],df:=[],hp:=H1++.cells [.int .i64 (g w0).lo,.int .i64 (g w0).hi]::J,tc:=tc1.filter (·<H.length) }) ?_ (fun i st hi=>absurd hi (by omega)) ?_
    · refine ⟨[],?_⟩
      (refine st_is ?_ ?_ ?_ ?_;(focus (simp[zan,zaq]));(focus rfl);(focus (first|rfl|(simp;done)|(simp;rfl)));(focus rfl))
    · rintro st ⟨J,rfl⟩
      (repeat (first|(with_reducible apply zad;(focus ((conv=>lhs;simp[*,Nat.testBit_eq_decide_div_mod_eq])<;>exact rfl));simp only[addFl])|((with_reducible first|apply zai|apply zak|apply zah|apply zaf|apply zac|apply zaj|apply zag|apply zam|(apply zae;· simp[*,zaa])|(apply zab;· simp[*,zaa]));try simp only[Then,Ops,OutB,reduceIte])|simp only[Nat.reduceEqDiff,reduceIte,OutB,Then]))
      rw[← zuk y0]
      exact HF.out _ _ _ rfl rfl _ rfl
  · have hwl:0<ws.length:=by
      cases ws with
      |nil=>exact absurd rfl hw
      |cons _ _=>simp
    (repeat (first|(with_reducible apply zad;(focus ((conv=>lhs;simp[*,Nat.testBit_eq_decide_div_mod_eq])<;>exact rfl));simp only[addFl])|((with_reducible first|apply zai|apply zak|apply zah|apply zaf|apply zac|apply zaj|apply zag|apply zam|(apply zae;· simp[*,zaa])|(apply zab;· simp[*,zaa]));try simp only[Then,Ops])|simp only[Nat.reduceEqDiff,reduceIte,OutB,Then]))
    refine zaz hC ws.length hw8.1 (fun i st=>∃ J,st={ tm:=tmA 38 [(27,.int .i64 i),(26,.int .i64 ws.length),(25,.sl b 19 ws.length 19),(10,.ptr H1.length 0),(8,.ptr H.length 0),(3,F)],df:=[],hp:=H1++.cells [.int .i64 (foldE g (ws.take i) (g w0)).lo,.int .i64 (foldE g (ws.take i) (g w0)).hi]::J,tc:=tc1.filter (·<H.length) }) ?_ ?_ ?_
    · refine ⟨[],?_⟩
      (refine st_is ?_ ?_ ?_ ?_;(focus (simp[zan,zaq]));(focus rfl);(focus (first|rfl|(simp;done)|(simp;rfl)));(focus rfl))
    · rintro i st hi ⟨J,rfl⟩
      have hgi:ws[i]?=some ws[i]:=List.getElem?_eq_getElem hi
      generalize ws[i]=w at hgi
      have hm:=List.mem_of_getElem? hgi
      have hFw:=fun K=>hF1 K w (by simp[hm])
      have e1:=w1 (i+1) w (by simpa using hgi)
      rw[show (i+1) * 19=19+i * 19 by omega] at e1
      have e2:=zst g ws (g w0) hgi
      have e3:=fun H=>hEi H (foldE g (ws.take i) (g w0)) (g w)
      rw[← e2] at e3
      generalize foldE g (ws.take i) (g w0)=s0 at *
      generalize foldE g (ws.take (i+1)) (g w0)=s1 at *
      have e4:19+i * 19+19≤(ws.length+1) * 19:=by omega
      have e5:(i:Int)<ws.length:=by omega
      have e6:=zeh n pack w
      have e7:(wayCs n pack w).all AV.plain=true:=rfl
      have e8:List.take 19 (wayCs n pack w)=wayCs n pack w:=rfl
      have hwi:IntKind.i64.wrap (↑i+1)=↑i+1:=zat (by omega) (by have:=hw8.2;omega)
      generalize wayCs n pack w=R at *
      clear hF1 hF2 w1 w2 e2 hgi hm
      (repeat (first|(with_reducible apply zad;(focus ((conv=>lhs;simp[*,Nat.testBit_eq_decide_div_mod_eq])<;>exact rfl));simp only[addFl])|((with_reducible first|apply zai|apply zak|apply zah|apply zaf|apply zac|apply zaj|apply zag|apply zam|(apply zae;· simp[*,zaa])|(apply zab;· simp[*,zaa]));try simp only[Then,Ops,OutB])|simp only[Nat.reduceEqDiff,reduceIte,OutB,Then]))
      refine ⟨J++[.cells R],?_⟩
      (refine st_is ?_ ?_ ?_ ?_;(focus (simp[zan,zaq]));(focus rfl);(focus (first|rfl|(simp;done)|(simp;rfl)));(focus rfl))
    · rintro st ⟨J,rfl⟩
      rw[List.take_length]
      have e5:¬ ((ws.length:Int)<ws.length):=by omega
      clear hF1 hF2 w1 w2
      (repeat (first|(with_reducible apply zad;(focus ((conv=>lhs;simp[*,Nat.testBit_eq_decide_div_mod_eq])<;>exact rfl));simp only[addFl])|((with_reducible first|apply zai|apply zak|apply zah|apply zaf|apply zac|apply zaj|apply zag|apply zam|(apply zae;· simp[*,zaa])|(apply zab;· simp[*,zaa]));try simp only[Then,Ops,OutB,reduceIte])|simp only[Nat.reduceEqDiff,reduceIte,OutB,Then]))
      rw[← zuk y0]
      exact HF.out _ _ _ rfl rfl _ rfl
end K
end Ev
end Go.Proofs.YtimgnlellflciaaGreat

/- Package clamp, gone through: the hull of something, over all packs. -/
namespace Go.Proofs.YtimgnlellflciaaGreat
open Go
namespace Ev
namespace K
attribute [local simp] ev1 wantG spineK spine float xnew xval xeff zaa zar zbb zau zav addFl cellsOf pickC alive slLen slFt binI maxA maxK minA minK aeqK aeqS AV.cells spA zas fillA setAt bitsI nat_nn zbe AV.plain apart
set_option maxRecDepth 100000
set_option maxHeartbeats 4000000
def PackF (call:CallF)(F:AV)(c:Clm.Cl)(yb mb:Nat)(H0:List AB)(g:Int→Clm.Sp):Prop:=∀ G,Kp [mb] H0 G→Yd c yb mb G→∀ k∈Clm.packs c (Clm.every c),∃ G' tc,call F [.int .i64 k] G=some (.ret (.agg [.int .i64 (g k).lo,.int .i64 (g k).hi]),G',tc)∧(∀ j∈tc,j=mb)∧Kp tc G G'∧Yd c yb mb G'
theorem zwj (d:List Clm.Sp)(x:Clm.Sp)(h:d≠[]):Clm.hull (d++[x])=x.either (Clm.hull d):=by
  cases d with
  |nil=>exact absurd rfl h
  |cons a d=>simp only[List.cons_append,Clm.hull,List.foldl_append,List.foldl_cons,List.foldl_nil];exact Clm.either_comm _ _
theorem zwi (C:Cfg)(hC:C.calm=true)(n:Nat)(c:Clm.Cl)(hE:EveryC (Ev.call C (n+2)) c)(hP:PacksC (Ev.call C (n+2)))(hI:PackI C (n+1) c)(hEi:EitherC (Ev.call C n))(H:List AB)(yb mb:Nat)(hY:Yd c yb mb H)(fl:Fn)(fa fb:List AV)(g:Int→Clm.Sp)(hF:PackF (Ev.call C n) (.fn fl fa fb) c yb mb H g):
    Does (ev C (Ev.call C (n+2)) H.length none af81.body { tm:=tmA af81.ntmps (zipI 0 [.ptr yb 0,.fn fl fa fb] []),df:=[],hp:=H,tc:=[] })
      (Ends C H.length af81.res fun v hp tc=>v=spA (Clm.hull ((Clm.packs c (Clm.every c)).map g))∧(∀ j∈tc,j=mb)∧Kp tc H hp∧Yd c yb mb hp):=by
  unfold PacksC at hP
  have hyl:=get_lt hY.y
  obtain ⟨es,hm,hes⟩:=hY.m
  have hml:=get_lt hm
  have hev:=fun K=>hE (H++K) yb _ (hY.app K).y
  clear hE
  unfold af81
  simp only[zipI]
  (repeat (first|(with_reducible apply zad;(focus ((conv=>lhs;simp[*,Nat.testBit_eq_decide_div_mod_eq])<;>exact rfl));simp only[addFl])|((with_reducible first|apply zai|apply zak|apply zah|apply zaf|apply zac|apply zaj|apply zag|apply zam|(apply zae;· simp[*,zaa])|(apply zab;· simp[*,zaa]));try simp only[Then,Ops])|simp only[Nat.reduceEqDiff,reduceIte,OutB,Then]))
  refine znc hC (hI yb mb (Clm.every c) (H.length+4) (H.length+4+1)) (by simp[zaa]) rfl [H.length+2,H.length+3] (by simp) (by simp;omega)
    (fun d W G=>W=[]∧Kp [mb] H G∧G[H.length]?=some (.cells [.fn fl fa fb])∧G[H.length+2]?=some (.cells [.int .i64 (Clm.hull (d.map g)).lo,.int .i64 (Clm.hull (d.map g)).hi])∧G[H.length+3]?=some (.cells [.bool d.isEmpty])) (fun e d G=>False)
    (fun r=>?_) (fun G G' h k=>?_) (fun r=>?_) (fun r=>?_) (fun d W G G' h k=>?_) (fun e d G G' h k=>h) ?_ ?_ (fun _ _ _ _ _ _ _ _ _ _ _ h=>h.elim)
  · refine ⟨by simp,by simp[Nat.add_assoc],by simp<;>omega,by simp<;>omega,by omega,by omega⟩
  · obtain ⟨es,m1,m2⟩:=h.m
    refine ⟨h.ne,(k _ (by simp;omega)).trans h.y,es,(k _ (by simp;omega)).trans m1,m2⟩
  · refine ⟨rfl,?_,by simp,by simp[Clm.hull],by simp⟩
    rw[List.append_assoc];exact Kp.app _ _
  · exact (hY.app _).app _
  · simp only[List.length_append,List.length_cons,List.length_nil,Nat.zero_add,Nat.add_assoc,Nat.reduceAdd] at k
    obtain ⟨h1,h2,h3,h4,h5⟩:=h
    have:=h2.len
    refine ⟨h1,⟨?_,fun b hb hs=>?_⟩,(k _ (get_lt h3) (by simp;omega) (by omega)).trans h3,(k _ (get_lt h4) (by simp;omega) (by omega)).trans h4,(k _ (get_lt h5) (by simp;omega) (by omega)).trans h5⟩
    · have:=(k _ (get_lt h3) (by simp;omega) (by omega)).trans h3
      have:=get_lt this;omega
    · rw[k b (by omega) hs (by omega)];exact h2.get b hb hs
  · rintro d s W G rz hpr ⟨rfl,h1,h5,h6,h7⟩ h2 h3 h4
    rw[setP1]
    simp only[List.length_append,List.length_cons,List.length_nil,Nat.zero_add,Nat.add_assoc,Nat.reduceAdd] at h3 ⊢
    (repeat (first|(with_reducible apply zad;(focus ((conv=>lhs;simp[*,Nat.testBit_eq_decide_div_mod_eq])<;>exact rfl));simp only[addFl])|((with_reducible first|apply zai|apply zak|apply zah|apply zaf|apply zac|apply zaj|apply zag|apply zam|(apply zae;· simp[*,zaa])|(apply zab;· simp[*,zaa]));try simp only[Ops])|simp only[Nat.reduceEqDiff,reduceIte,OutB,Then]))
    refine ⟨trivial,trivial,?_⟩
    obtain ⟨G2,hG2,k1,k2,k3,k4⟩:=zuj (G:=G) (l:=H.length+7) (.loop rz) (by omega)
    rw[← hG2]
    clear hG2
    have e1:=(k3 H.length (by omega)).trans h5
    have e2:=(k3 (H.length+2) (by omega)).trans h6
    have e3:=(k3 (H.length+3) (by omega)).trans h7
    have hYd2:Yd c yb mb G2:=h2.kp k4 (by simp<;>omega) (by simp<;>omega)
    have hK2:Kp [mb] H G2:=⟨by omega,fun b hb hs=>by rw[k3 b (by omega)];exact h1.get b hb hs⟩
    obtain ⟨G3,tc3,c1,c2,c3,c4⟩:=hF G2 hK2 hYd2 s (hpr.subset (by simp))
    have nt:∀ {j},H.length≤j→j∉tc3:=fun hj ht=>by have:=c2 _ ht;omega
    obtain ⟨f0,f1,f2,f3,f4,f5⟩:=bk' e1
    obtain ⟨g0,g1,g2,g3,g4,g5⟩:=bk' (c3.at e2 (nt (by omega)))
    obtain ⟨o0,o1,o2,o3,o4,o5⟩:=bk' (c3.at e3 (nt (by omega)))
    have k23:=c3.at k2 (nt (by omega))
    have e13:=c3.at e1 (nt (by omega))
    have hlen3:=c3.len
    have HA:=hideP (And.intro hK2 (And.intro c2 (And.intro c3 (And.intro c4 (And.intro k4 (And.intro h1 (And.intro e13 (And.intro k23 (And.intro k1 hlen3)))))))))
    clear hY hm hP hI hF hK2 c2 c3 c4 hYd2 h2 h1 e13 k4 k3 hev hpr k1 hlen3 h3
    have hhs:=zwj (d.map g) (g s)
    have HH:=hideP hhs
    clear hhs
    have hei:=fun H=>hEi H (g s) (Clm.hull (d.map g))
    generalize Clm.hull (d.map g)=hd at *
    cases d with
    |nil=>
      simp only[List.isEmpty_nil] at *
      (repeat (first|(with_reducible apply zad;(focus ((conv=>lhs;simp[*,Nat.testBit_eq_decide_div_mod_eq])<;>exact rfl));simp only[addFl])|((with_reducible first|apply zai|apply zak|apply zah|apply zaf|apply zac|apply zaj|apply zag|apply zam|(apply zae;· simp[*,zaa])|(apply zab;· simp[*,zaa]));try simp only[Then,Ops,OutB])|simp only[Nat.reduceEqDiff,reduceIte,OutB,Then]))
      obtain ⟨hK2,c2,c3,c4,k4,h1,e13,k23,k1,hlen3⟩:=HA.out
      have hG3:G.length≤G3.length:=by omega
      have h13:H.length≤G.length:=h1.len
      have hh:H.length+7<G3.length:=get_lt k23
      have hcc:∀ {j x},G3[j]?=some x→j≠H.length+2→j≠H.length+3→∀ X Y K,((G3.set (H.length+2) X).set (H.length+3) Y++K)[j]?=some x:=fun hx h1 h2 X Y K=>by
        rw[List.getElem?_append_left (by simpa using get_lt hx),List.getElem?_set_ne (by omega),List.getElem?_set_ne (by omega)];exact hx
      have hkk:∀ {S X Y K},Kp S G G3→(H.length+2<G.length→H.length+2∈S)→(H.length+3<G.length→H.length+3∈S)→Kp S G ((G3.set (H.length+2) X).set (H.length+3) Y++K):=fun k h1 h2=>((k.set _ _ h1).set _ _ h2).trans (Kp.app _ _)
      refine ⟨by simp,hcc k23 (by omega) (by omega) _ _ _,by simp;omega,?_,?_,?_,fun _=>⟨[],by simp,rfl,?_,hcc e13 (by omega) (by omega) _ _ _,?_,?_⟩,fun h=>absurd rfl h⟩
      · intro j hj
        simp only[List.mem_append,List.mem_filter,List.mem_singleton,decide_eq_true_eq] at hj
        simp only[List.mem_cons,List.not_mem_nil,or_false]
        rcases hj with h|h|h|h|h
        · omega
        · omega
        · omega
        · exact .inr (.inr (c2 j h.1))
        · exact .inl h
      · refine hkk ((k4.trans2 c3).mono fun b _ h=>?_) (fun h=>?_) (fun h=>?_)
        · exact List.mem_append_right _ (List.mem_append_right _ (List.mem_append_right _ h))
        · exact List.mem_append_right _ (List.mem_append_left _ (List.mem_filter.2 ⟨by simp,by simpa using h⟩))
        · exact List.mem_append_left _ (List.mem_filter.2 ⟨by simp,by simpa using h⟩)
      · have k:=((Kp.refl [H.length+2,H.length+3] G3).set (H.length+2) (.cells [.int .i64 (g s).lo,.int .i64 (g s).hi]) (by simp)).set (H.length+3) (.cells [.bool false]) (by simp)
        exact (c4.kp k (by simp<;>omega) (by simp<;>omega)).app _
      · have k3:Kp [mb] H G3:=⟨by omega,fun b hb hs=>by rw[c3.get b (by omega) (fun h=>hs (by simpa using c2 b h))];exact hK2.get b hb hs⟩
        exact (((k3.set _ _ (by omega)).set _ _ (by omega))).trans (Kp.app _ _)
      · rw[List.getElem?_append_left (by simp;omega),List.getElem?_set_ne (by omega),List.getElem?_set_self (by omega)]
        simp[Clm.hull]
      · rw[List.getElem?_append_left (by simp;omega),List.getElem?_set_self (by simp;omega)]
        simp
    |cons a d=>
      simp only[List.isEmpty_cons] at *
      (repeat (first|(with_reducible apply zad;(focus ((conv=>lhs;simp[*,Nat.testBit_eq_decide_div_mod_eq])<;>exact rfl));simp only[addFl])|((with_reducible first|apply zai|apply zak|apply zah|apply zaf|apply zac|apply zaj|apply zag|apply zam|(apply zae;· simp[*,zaa])|(apply zab;· simp[*,zaa]));try simp only[Then,Ops,OutB])|simp only[Nat.reduceEqDiff,reduceIte,OutB,Then]))
      obtain ⟨hK2,c2,c3,c4,k4,h1,e13,k23,k1,hlen3⟩:=HA.out
      have hG3:G.length≤G3.length:=by omega
      have h13:H.length≤G.length:=h1.len
      have hh:H.length+7<G3.length:=get_lt k23
      have hcc:∀ {j x},G3[j]?=some x→j≠H.length+2→j≠H.length+3→∀ X Y K,((G3.set (H.length+2) X).set (H.length+3) Y++K)[j]?=some x:=fun hx h1 h2 X Y K=>by
        rw[List.getElem?_append_left (by simpa using get_lt hx),List.getElem?_set_ne (by omega),List.getElem?_set_ne (by omega)];exact hx
      have hkk:∀ {S X Y K},Kp S G G3→(H.length+2<G.length→H.length+2∈S)→(H.length+3<G.length→H.length+3∈S)→Kp S G ((G3.set (H.length+2) X).set (H.length+3) Y++K):=fun k h1 h2=>((k.set _ _ h1).set _ _ h2).trans (Kp.app _ _)
      refine ⟨by simp,hcc k23 (by omega) (by omega) _ _ _,by simp;omega,?_,?_,?_,fun _=>⟨[],by simp,rfl,?_,hcc e13 (by omega) (by omega) _ _ _,?_,?_⟩,fun h=>absurd rfl h⟩
      · intro j hj
        simp only[List.mem_append,List.mem_filter,List.mem_singleton,decide_eq_true_eq] at hj
        simp only[List.mem_cons,List.not_mem_nil,or_false]
        rcases hj with h|h|h|h|h|h
        · omega
        · omega
        · omega
        · omega
        · exact .inr (.inr (c2 j h.1))
        · exact .inl h
      · refine hkk ((k4.trans2 c3).mono fun b _ h=>?_) (fun h=>?_) (fun h=>?_)
        · exact List.mem_append_right _ (List.mem_append_right _ (List.mem_append_right _ (List.mem_append_right _ h)))
        · exact List.mem_append_right _ (List.mem_append_left _ (List.mem_filter.2 ⟨by simp,by simpa using h⟩))
        · exact List.mem_append_left _ (List.mem_filter.2 ⟨by simp,by simpa using h⟩)
      · have k:=((Kp.refl [H.length+2,H.length+3] G3).set (H.length+2) (.cells [.int .i64 ((g s).either hd).lo,.int .i64 ((g s).either hd).hi]) (by simp)).set (H.length+3) (.cells [.bool false]) (by simp)
        exact (c4.kp k (by simp<;>omega) (by simp<;>omega)).app _
      · have k3:Kp [mb] H G3:=⟨by omega,fun b hb hs=>by rw[c3.get b (by omega) (fun h=>hs (by simpa using c2 b h))];exact hK2.get b hb hs⟩
        exact (((k3.set _ _ (by omega)).set _ _ (by omega))).trans (Kp.app _ _)
      · rw[List.getElem?_append_left (by simp;omega),List.getElem?_set_ne (by omega),List.getElem?_set_self (by omega)]
        have:=HH.out (by simp)
        simp only[List.map_append,List.map_cons,List.map_nil] at this ⊢
        rw[this]
      · rw[List.getElem?_append_left (by simp;omega),List.getElem?_set_self (by simp;omega)]
        simp
  · rintro H' tc W h1 h2 h3 h4 h5 h6 ⟨rfl,h7,h8,h9,h10⟩
    simp only[List.length_append,List.length_cons,List.length_nil,Nat.zero_add,Nat.add_assoc,Nat.reduceAdd] at h1 h4 h5 ⊢
    have hkp:=h2.pre
    have htc:∀ j∈tc.filter (·<H.length),j=mb:=by
      intro j hj
      obtain ⟨q1,q2⟩:=List.mem_filter.1 hj
      have q2:j<H.length:=by simpa using q2
      have:=h1 j q1 (by omega)
      simp at this
      omega
    have hkp2:Kp (tc.filter (·<H.length)) H H':=hkp.mono fun b hb h=>List.mem_filter.2 ⟨h,by simpa using hb⟩
    generalize Clm.hull ((Clm.packs c (Clm.every c)).map g)=hd at *
    have e1:∃ x y,H'[H.length+1]?=some (.cells [x,y]):=by
      have:=h2.get (H.length+1) (by simp) (fun h=>by have:=h1 _ h (by omega);simp at this;omega)
      rw[this]
      exact ⟨_,_,by simp;exact ⟨rfl,rfl⟩⟩
    obtain ⟨x,y,e1⟩:=e1
    obtain ⟨f0,f1,f2,f3,f4,f5⟩:=bk' h9
    obtain ⟨g0,g1,g2,g3,g4,g5⟩:=bk' e1
    have HQ:=hideP (And.intro htc (And.intro hkp2 (And.intro h3 (And.intro h4 h5))))
    clear htc hkp2 h3 h1 h2 hkp hY hm hP hI h6 h7 h4 h5 hF
    simp only[List.append_nil]
    (repeat (first|(with_reducible apply zad;(focus ((conv=>lhs;simp[*,Nat.testBit_eq_decide_div_mod_eq])<;>exact rfl));simp only[addFl])|((with_reducible first|apply zai|apply zak|apply zah|apply zaf|apply zac|apply zaj|apply zag|apply zam|(apply zae;· simp[*,zaa])|(apply zab;· simp[*,zaa]));try simp only[Then,Ops])|simp only[OutB,Then]))
    obtain ⟨q1,q2,q3,h4,h5⟩:=HQ.out
    refine zfy (v := spA hd) (.inl rfl) rfl (by rw [List.getElem?_set_ne (by omega)]; exact h4) (by omega) (by simp; omega) (by
      simp only[resL,resOf,zal]
      simp only[reduceIte,Nat.reduceEqDiff,Nat.reduceLT]
      rw[List.getElem?_set_ne (by omega),List.getElem?_set_self (by omega)]
      simp[pickC,resV,spA]) ⟨rfl,q1,(q2.set _ _ (by omega)).set _ _ (by omega),?_⟩
    exact (q3.kp ((Kp.refl [H.length+1] H').set _ _ (by simp)) (by simp<;>omega) (by simp<;>omega)).kp ((Kp.refl [H.length+6] _).set _ _ (by simp)) (by simp<;>omega) (by simp<;>omega)
end K
end Ev
end Go.Proofs.YtimgnlellflciaaGreat

/- Package clamp, gone through: spans of something of a clamp, and of all clamps of a set. -/
namespace Go.Proofs.YtimgnlellflciaaGreat
open Go
namespace Ev
namespace K
attribute [local simp] ev1 wantG spineK spine float xnew xval xeff zaa zar zbb zau zav addFl cellsOf pickC alive slLen slFt binI maxA maxK minA minK aeqK aeqS AV.cells spA zas fillA setAt bitsI nat_nn zbe AV.plain apart
set_option maxRecDepth 100000
set_option maxHeartbeats 4000000
theorem WayF.app {call:CallF}{F:AV}{c:Clm.Cl}{yb mb n:Nat}{pack:Int}{H:List AB}{g:Clm.Way→Clm.Sp}(h:WayF call F c yb mb n pack H g){H':List AB}(k:Kp [mb] H H'):WayF call F c yb mb n pack H' g:=
  fun G hG=>h G (k.trans hG)
def SpanC (C:Cfg)(n:Nat)(c:Clm.Cl):Prop:=∀ (H:List AB) (yb mb:Nat),Yd c yb mb H→∀ i,i<c.piles.length→∀ pack,0≤pack→pack≤5→∀ (F:AV) (g:Clm.Way→Clm.Sp),WayF (Ev.call C n) F c yb mb i pack H g→Clm.ways c i pack (Clm.every c)≠[] →
  ∃ H' tc,Ev.call C (n+1) (.fn (.func 83) [] []) [.ptr yb 0,.int .i64 i,.int .i64 pack,F] H=some (.ret (.agg [.int .i64 (Clm.spanOf c i pack g).lo,.int .i64 (Clm.spanOf c i pack g).hi]),H',tc)∧(∀ j∈tc,j=mb)∧Kp tc H H'∧Yd c yb mb H'
def HullC (C:Cfg)(n:Nat)(c:Clm.Cl):Prop:=∀ (H:List AB) (yb mb:Nat),Yd c yb mb H→∀ (fl:Fn) (fa fb:List AV) (g:Int→Clm.Sp),PackF (Ev.call C n) (.fn fl fa fb) c yb mb H g →
  ∃ H' tc,Ev.call C (n+3) (.fn (.func 81) [] []) [.ptr yb 0,.fn fl fa fb] H=some (.ret (.agg [.int .i64 (Clm.hull ((Clm.packs c (Clm.every c)).map g)).lo,.int .i64 (Clm.hull ((Clm.packs c (Clm.every c)).map g)).hi]),H',tc)∧(∀ j∈tc,j=mb)∧Kp tc H H'∧Yd c yb mb H'
theorem zdh {C:Cfg}{n f:Nat}{fn:AFunc}{first captured args:List AV}{H:List AB}{c:Clm.Cl}{yb mb:Nat}{v:AV}(hc:C.calm=true)(h0:Has C f fn)(hlen:first.length+args.length+captured.length≤fn.ntmps)(hY:Yd c yb mb H)
    (h:Does (ev C (Ev.call C n) H.length none fn.body { tm:=tmA fn.ntmps (zipI 0 (first++args++captured) []),df:=[],hp:=H,tc:=[] }) (Ends C H.length fn.res fun w hp tc=>w=v∧(∀ j∈tc,j=mb)∧Kp tc H hp∧Yd c yb mb hp)):
    ∃ H' tc,Ev.call C (n+1) (.fn (.func f) first captured) args H=some (.ret v,H',tc)∧(∀ j∈tc,j=mb)∧Kp tc H H'∧Yd c yb mb H':=by
  obtain ⟨w,hp,tc,H',c1,⟨rfl,c2,c3,c4⟩,c5,_,_⟩:=zbo hc h0.ext h0.exth h0.fns h0.whole (by simp;omega) h
  have hs:=c5.same c3
  obtain ⟨es,m1,m2⟩:=hY.m
  obtain ⟨es2,m3,m4⟩:=c4.m
  exact ⟨H',tc,c1,c2,⟨c5.len,fun b hb ht=>(hs b hb).trans (c3.get b hb ht)⟩,hY.ne,(hs _ (get_lt hY.y)).trans c4.y,es2,(hs _ (get_lt m1)).trans m3,m4⟩
theorem zkw {c:Clm.Cl}(hc:Clm.Fine c){counts:Nat}{k:Int}(h:k∈Clm.packs c counts):0≤k∧k≤5∧∀ i,i<c.piles.length→Clm.ways c i k counts≠[]:=by
  unfold Clm.packs at h
  rw[List.mem_filter,Clm.mem_span] at h
  have:=hc.pack
  simp only[Clm.Sp.has] at h
  refine ⟨by omega,by omega,fun i hi=>?_⟩
  have h2:=List.all_eq_true.1 h.2 i (by simpa using hi)
  simpa using h2
theorem zyu (C:Cfg)(n:Nat)(c:Clm.Cl)(hc:Clm.Fine c)(hS:SpanC C n c)(H:List AB)(yb mb:Nat)(hY:Yd c yb mb H)(i:Nat)(hi:i<c.piles.length)(F:AV)(_hFc:AV.plain F=true)(g:Int→Clm.Way→Clm.Sp)(b1 b2 b3:Nat)(h1:H[b1]?=some (.cells [.ptr yb 0]))(h2:H[b2]?=some (.cells [.int .i64 i]))(h3:H[b3]?=some (.cells [F]))(k:Int)(hk:k∈Clm.packs c (Clm.every c))(hF:WayF (Ev.call C n) F c yb mb i k H (g k)):
    Does (ev C (Ev.call C (n+1)) H.length none af82.body { tm:=tmA af82.ntmps (zipI 0 [.int .i64 k,.ptr b1 0,.ptr b2 0,.ptr b3 0] []),df:=[],hp:=H,tc:=[] })
      (Ends C H.length af82.res fun v hp tc=>v=spA (Clm.spanOf c i k (g k))∧(∀ j∈tc,j=mb)∧Kp tc H hp∧Yd c yb mb hp):=by
  obtain ⟨p0,p1,hw⟩:=zkw hc hk
  have hml:mb<H.length:=by obtain ⟨es,hm,_⟩:=hY.m;exact get_lt hm
  have hyl:=get_lt hY.y
  obtain ⟨H1,tc1,c1,c2,c3,c4⟩:=hS (H++[.cells [.int .i64 0,.int .i64 0]]) yb mb (hY.app _) i hi k p0 p1 F (g k) (hF.app (Kp.app _ _)) (hw i hi)
  have e1:H1[H.length]?=some (.cells [.int .i64 0,.int .i64 0]):=c3.at (by simp) (fun h=>by have:=c2 _ h;omega)
  obtain ⟨x0,x1,x2,x3,x4,x5⟩:=bk' h1
  obtain ⟨y0,y1,y2,y3,y4,y5⟩:=bk' h2
  obtain ⟨z0,z1,z2,z3,z4,z5⟩:=bk' h3
  obtain ⟨f0,f1,f2,f3,f4,f5⟩:=bk' e1
  have n1:¬ H.length<H.length:=by omega
  have HA:=hideP (And.intro c2 (And.intro c3 c4))
  clear hS hF hY c2 c3 c4 hc
  unfold af82
  simp only[zipI] at *
  generalize Clm.spanOf c i k (g k)=sp at *
  (repeat (first|(with_reducible apply zad;(focus ((conv=>lhs;simp[*,Nat.testBit_eq_decide_div_mod_eq])<;>exact rfl));simp only[addFl])|((with_reducible first|apply zai|apply zak|apply zah|apply zaf|apply zac|apply zaj|apply zag|apply zam|(apply zae;· simp[*,zaa])|(apply zab;· simp[*,zaa]));try simp only[Then,Ops])|simp only[Nat.reduceEqDiff,reduceIte,OutB,Then]))
  obtain ⟨c2,c3,c4⟩:=HA.out
  have hf:tc1.filter (·<H.length)=tc1:=List.filter_eq_self.2 fun j hj=>by have:=c2 j hj;simp;omega
  rw[hf]
  refine zao (v:=spA sp) (.inl rfl) rfl (by simp;omega) (by simp only[resL,resOf,zal];simp[resV,pickC,spA,f0]) ⟨rfl,c2,c3.pre.set _ _ (by omega),c4.kp ((Kp.refl [H.length] _).set _ _ (by simp)) (by simp<;>omega) (by simp<;>omega)⟩
theorem yar (C:Cfg)(n:Nat)(hC:C.calm=true)(h73:Has C 82 af82)(c:Clm.Cl)(hc:Clm.Fine c)(hS:SpanC C n c)(hH:HullC C (n+2) c)(H:List AB)(yb mb:Nat)(hY:Yd c yb mb H)(i:Nat)(hi:i<c.piles.length)(fl:Fn)(fa fb:List AV)(g:Int→Clm.Way→Clm.Sp)(hF:∀ k∈Clm.packs c (Clm.every c),WayF (Ev.call C n) (.fn fl fa fb) c yb mb i k H (g k)):
    Does (ev C (Ev.call C (n+5)) H.length none af32.body { tm:=tmA af32.ntmps (zipI 0 [.ptr yb 0,.int .i64 i,.fn fl fa fb] []),df:=[],hp:=H,tc:=[] })
      (Ends C H.length af32.res fun v hp tc=>v=spA (Clm.ofAll c i g)∧(∀ j∈tc,j=mb)∧Kp tc H hp∧Yd c yb mb hp):=by
  have hml:mb<H.length:=by obtain ⟨es,hm,_⟩:=hY.m;exact get_lt hm
  have hyl:=get_lt hY.y
  obtain ⟨H0,hH0⟩:∃ H0,H0=H++[.cells [.ptr yb 0],.cells [.int .i64 i],.cells [.fn fl fa fb],.cells [.int .i64 0,.int .i64 0]]:=⟨_,rfl⟩
  obtain ⟨H1, tc1, c1, c2, c3, c4⟩ := hH H0 yb mb (by rw [hH0]; exact hY.app _) (.func 82) [] [.ptr H.length 0, .ptr (H.length + 1) 0, .ptr (H.length + 2) 0] (fun k => Clm.spanOf c i k (g k)) (by
    intro G hG hYG k hk
    have hat:∀ {j x},H0[j]?=some x→H.length≤j→G[j]?=some x:=fun hx hj=>hG.at hx (by simp;omega)
    exact zdh hC h73 (Nat.le_of_ble_eq_true rfl) hYG (zyu C n c hc hS G yb mb hYG i hi (.fn fl fa fb) rfl g H.length (H.length+1) (H.length+2) (hat (by rw[hH0];simp) (by omega)) (hat (by rw[hH0];simp) (by omega)) (hat (by rw[hH0];simp) (by omega)) k hk ((hF k hk).app (by rw[hH0] at hG;exact hG.pre))))
  have e1:H1[H.length+3]?=some (.cells [.int .i64 0,.int .i64 0]):=c3.at (by rw[hH0];simp) (fun h=>by have:=c2 _ h;omega)
  obtain ⟨f0,f1,f2,f3,f4,f5⟩:=bk' e1
  have n1:∀ n,¬ H.length+n<H.length:=by omega
  rw[hH0] at c1 c3
  have hall:Clm.ofAll c i g=Clm.hull ((Clm.packs c (Clm.every c)).map fun k=>Clm.spanOf c i k (g k)):=rfl
  rw[hall]
  generalize Clm.hull ((Clm.packs c (Clm.every c)).map fun k=>Clm.spanOf c i k (g k))=sp at *
  have HA:=hideP (And.intro c2 (And.intro c3 c4))
  clear hS hF hY c2 c3 c4 hc hH hH0 hall
  unfold af32
  simp only[zipI] at *
  (repeat (first|(with_reducible apply zad;(focus ((conv=>lhs;simp[*,Nat.testBit_eq_decide_div_mod_eq])<;>exact rfl));simp only[addFl])|((with_reducible first|apply zai|apply zak|apply zah|apply zaf|apply zac|apply zaj|apply zag|apply zam|(apply zae;· simp[*,zaa])|(apply zab;· simp[*,zaa]));try simp only[Then,Ops])|simp only[Nat.reduceEqDiff,reduceIte,OutB,Then]))
  obtain ⟨c2,c3,c4⟩:=HA.out
  have hf:tc1.filter (·<H.length)=tc1:=List.filter_eq_self.2 fun j hj=>by have:=c2 j hj;simp;omega
  rw[hf]
  refine zao (v:=spA sp) (.inl rfl) rfl (by simp;omega) (by simp only[resL,resOf,zal];simp[resV,pickC,spA,f0]) ⟨rfl,c2,c3.pre.set _ _ (by omega),c4.kp ((Kp.refl [H.length+3] _).set _ _ (by simp)) (by simp<;>omega) (by simp<;>omega)⟩
end K
end Ev
end Go.Proofs.YtimgnlellflciaaGreat

/- Spans that are returned are of small numbers. -/
namespace Go.Proofs.YtimgnlellflciaaGreat
open Go
namespace Clm
theorem zsl {s t:Sp}(h:Low s)(g:Low t):Low (s.either t):=by
  obtain ⟨a,b,c,d⟩:=h
  obtain ⟨a',b',c',d'⟩:=g
  exact ⟨by simp only[Sp.either];omega,by simp only[Sp.either];omega,by simp only[Sp.either];omega,by simp only[Sp.either];omega⟩
theorem zqd:∀ (l:List Sp) (s:Sp),Low s→(∀ x∈l,Low x)→Low (l.foldl (fun k x=>k.either x) s)
  |[],_,h,_=>h
  |x::l,s,h,hl=>zqd l _ (zsl h (hl x (by simp))) fun y hy=>hl y (by simp[hy])
theorem zzc (l:List Sp)(hl:∀ x∈l,Low x):Low (hull l):=by
  cases l with
  |nil=>exact ⟨by decide,by decide,by decide,by decide⟩
  |cons x l=>exact zqd l x (hl x (by simp)) fun y hy=>hl y (by simp[hy])
theorem zik {x y A B:Int}(h1:0≤x)(h2:x≤A)(h3:0≤y)(h4:y≤B):0≤x * y∧x * y≤A * B:=⟨Int.mul_nonneg h1 h3,Int.mul_le_mul h2 h4 h3 (by omega)⟩
theorem znq {c:Cl}(hc:Fine c){i:Nat}(hi:i<c.piles.length){k:Int}(h0:0≤k)(h5:k≤5){s:Size}(hs:s∈sizes (c.piles.getD i default)):0≤s.sods k∧s.sods k≤5000:=by
  have h1:=hc.pile _ (pile_mem hi)
  rw[mem_sizes] at hs
  simp only[Sp.has] at hs
  obtain ⟨a0,a1⟩:=zik (x:=s.l) (y:=s.w) (A:=10) (B:=10) (by omega) (by omega) (by omega) (by omega)
  obtain ⟨b0,b1⟩:=zik (x:=s.l * s.w) (y:=s.h) (A:=10 * 10) (B:=10) a0 a1 (by omega) (by omega)
  obtain ⟨c0,c1⟩:=zik (x:=s.l * s.w * s.h) (y:=k) (A:=10 * 10 * 10) (B:=5) b0 b1 h0 h5
  exact ⟨c0,by unfold Size.sods;omega⟩
theorem way_low {c:Cl}(hc:Fine c){i:Nat}(hi:i<c.piles.length){k:Int}(h0:0≤k)(h5:k≤5){counts:Nat}{w:Way}(hw:w∈ways c i k counts):(∀ j,Low (w.log.getD j ⟨0,0⟩))∧0≤w.size.sods k∧w.size.sods k≤5000:=by
  obtain ⟨h1,h2,h3⟩:=(mem_ways hc hi h0 counts w).1 hw
  obtain ⟨s0,s1⟩:=znq hc hi h0 h5 h1
  refine ⟨fun j=>?_,s0,s1⟩
  rw[h2]
  exact low_bwd (befell_low hc i counts) ⟨s0,by simp only;omega,s0,by simp only;omega⟩ j
theorem zsk {c:Cl}(_hc:Fine c){i:Nat}(_hi:i<c.piles.length){k:Int}(_h0:0≤k)(_h5:k≤5)(f:Way→Sp)(hf:∀ w∈ways c i k (every c),Low (f w)):Low (spanOf c i k f):=by
  refine zzc _ fun x hx=>?_
  obtain ⟨w,hw,rfl⟩:=List.mem_map.1 hx
  exact hf w hw
theorem low_left {c:Cl}(hc:Fine c){i:Nat}(hi:i<c.piles.length){k:Int}(h0:0≤k)(h5:k≤5):Low (spanOf c i k (leftW c)):=zsk hc hi h0 h5 _ fun _w hw=>(way_low hc hi h0 h5 hw).1 _
def sumTo (c:Cl)(set:Nat)(k:Int)(n:Nat):Sp:=(List.range n).foldl (fun acc i=>if bit set i then ⟨acc.lo+(spanOf c i k (leftW c)).lo,acc.hi+(spanOf c i k (leftW c)).hi⟩ else acc) ⟨0,0⟩
theorem sumTo_succ (c:Cl)(set:Nat)(k:Int)(n:Nat):sumTo c set k (n+1)=if bit set n then ⟨(sumTo c set k n).lo+(spanOf c n k (leftW c)).lo,(sumTo c set k n).hi+(spanOf c n k (leftW c)).hi⟩ else sumTo c set k n:=by
  unfold sumTo;rw[List.range_succ,List.foldl_append];rfl
theorem sumTo_low {c:Cl}(hc:Fine c){set:Nat}{k:Int}(h0:0≤k)(h5:k≤5):∀ n,n≤c.piles.length→0≤(sumTo c set k n).lo∧(sumTo c set k n).lo≤10000 * n∧0≤(sumTo c set k n).hi∧(sumTo c set k n).hi≤10000 * n
  |0,_=>by simp[sumTo]
  |n+1,h=>by
    have ih:=sumTo_low hc (set:=set) h0 h5 n (by omega)
    obtain ⟨a,b,d,e⟩:=low_left hc (i:=n) (by omega) h0 h5
    rw[sumTo_succ]
    split
    · simp only;omega
    · omega
theorem together_eq (c:Cl)(set:Nat):together c set=hull ((packs c (every c)).map fun k=>sumTo c set k c.piles.length):=rfl
end Clm
end Go.Proofs.YtimgnlellflciaaGreat

/- Package clamp, gone through: what the clamps of a set have together. -/
namespace Go.Proofs.YtimgnlellflciaaGreat
open Go
namespace Ev
namespace K
attribute [local simp] ev1 wantG spineK spine float xnew xval xeff zaa zar zbb zau zav addFl cellsOf pickC alive slLen slFt binI maxA maxK minA minK aeqK aeqS AV.cells spA zas fillA setAt bitsI nat_nn zbe AV.plain apart
set_option maxRecDepth 100000
set_option maxHeartbeats 4000000
theorem ztx (C:Cfg)(n:Nat)(hC:C.calm=true)(c:Clm.Cl)(hc:Clm.Fine c)(hS:SpanC C n c)(H:List AB)(yb mb:Nat)(hY:Yd c yb mb H)(F:AV)(_hFc:AV.plain F=true)(set:Nat)(b1 b2 b3:Nat)(h1:H[b1]?=some (.cells [.ptr yb 0]))(h2:H[b2]?=some (.cells [.int .u64 set]))(h3:H[b3]?=some (.cells [F]))(hb:b1≠mb∧b2≠mb∧b3≠mb)(k:Int)(hk:k∈Clm.packs c (Clm.every c))(hF:∀ i,i<c.piles.length→WayF (Ev.call C n) F c yb mb i k H (Clm.leftW c)):
    Does (ev C (Ev.call C (n+1)) H.length none af87.body { tm:=tmA af87.ntmps (zipI 0 [.int .i64 k,.ptr b1 0,.ptr b2 0,.ptr b3 0] []),df:=[],hp:=H,tc:=[] })
      (Ends C H.length af87.res fun v hp tc=>v=spA (Clm.sumTo c set k c.piles.length)∧(∀ j∈tc,j=mb)∧Kp tc H hp∧Yd c yb mb hp):=by
  obtain ⟨p0,p1,hw⟩:=zkw hc hk
  have hml:mb<H.length:=by obtain ⟨es,hm,_⟩:=hY.m;exact get_lt hm
  have hyl:=get_lt hY.y
  have hpn:=hc.piles
  obtain ⟨Inv,hInv⟩:∃ Inv:Clm.Sp→List AB→List Nat→Prop,∀ s hp tc,Inv s hp tc↔((∀ j∈tc,j=mb)∧Kp tc H hp∧Yd c yb mb hp∧hp[H.length]?=some (.cells [.int .i64 s.lo,.int .i64 s.hi])):=⟨fun s hp tc=>_,fun s hp tc=>Iff.rfl⟩
  have hI:Inv ⟨0,0⟩ (H++[.cells [.int .i64 0,.int .i64 0]]) []:=(hInv _ _ _).2 ⟨by simp,Kp.app _ _,hY.app _,by simp⟩
  have hfacts:∀ s hp tc,Inv s hp tc→Bk hp b1 (.cells [.ptr yb 0])∧Bk hp b2 (.cells [.int .u64 set])∧Bk hp b3 (.cells [F])∧Bk hp H.length (.cells [.int .i64 s.lo,.int .i64 s.hi])∧Bk hp yb (.cells (clampCs c++[.map mb])):=by
    intro s hp tc hi
    obtain ⟨k0,k1,k2,k3⟩:=(hInv _ _ _).1 hi
    exact ⟨bk' (k1.at h1 fun h=>hb.1 (k0 _ h)),bk' (k1.at h2 fun h=>hb.2.1 (k0 _ h)),bk' (k1.at h3 fun h=>hb.2.2 (k0 _ h)),bk' k3,bk' k2.y⟩
  have hspan:∀ s hp tc,Inv s hp tc→∀ i,i<c.piles.length→∃ hp' tc',Ev.call C (n+1) (.fn (.func 83) [] []) [.ptr yb 0,.int .i64 i,.int .i64 k,F] hp=some (.ret (.agg [.int .i64 (Clm.spanOf c i k (Clm.leftW c)).lo,.int .i64 (Clm.spanOf c i k (Clm.leftW c)).hi]),hp',tc')∧H.length<hp'.length∧hp'[H.length]?=some (.cells [.int .i64 s.lo,.int .i64 s.hi])∧∀ t K,Inv t (hp'.set H.length (.cells [.int .i64 t.lo,.int .i64 t.hi])++K) (tc'.filter (·<H.length)++tc):=by
    intro s hp tc hi i hil
    obtain ⟨k0,k1,k2,k3⟩:=(hInv _ _ _).1 hi
    obtain ⟨hp',tc',s1,s2,s3,s4⟩:=hS hp yb mb k2 i hil k p0 p1 F (Clm.leftW c) ((hF i hil).app (k1.mono fun j _ h=>by simpa using k0 j h)) (hw i hil)
    have k3':=s3.at k3 fun h=>by have:=s2 _ h;omega
    have hl:=get_lt k3'
    refine ⟨hp',tc',s1,hl,k3',fun t K=>(hInv _ _ _).2 ⟨?_,?_,?_,?_⟩⟩
    · intro j hj
      rcases List.mem_append.1 hj with h|h
      · exact s2 j (List.mem_filter.1 h).1
      · exact k0 j h
    · exact ((k1.trans2 s3).set _ _ (by omega)).trans (Kp.app _ _)
    · exact (s4.kp ((Kp.refl [H.length] _).set _ _ (by simp)) (by simp<;>omega) (by simp<;>omega)).app _
    · rw[List.getElem?_append_left (by simpa using hl),List.getElem?_set_self hl]
  have hback:∀ s hp tc,Inv s hp tc→(∀ j∈tc,j=mb)∧Kp tc H hp∧Yd c yb mb hp∧hp[H.length]?=some (.cells [.int .i64 s.lo,.int .i64 s.hi]):=fun s hp tc h=>(hInv _ _ _).1 h
  have hsb:=fun m (hm:m≤c.piles.length)=>Clm.sumTo_low hc (set:=set) p0 p1 m hm
  have hsl:=fun m (hm:m<c.piles.length)=>Clm.low_left hc hm p0 p1
  obtain ⟨f0,f1,f2,f3,f4,f5⟩:=bk' h1
  obtain ⟨r0,r1,r2,r3,r4,r5⟩:=bk' hY.y
  have HFa:=hideP hfacts
  have HSp:=hideP hspan
  have HBk:=hideP hback
  have HSb:=hideP (And.intro hsb hsl)
  clear hfacts hspan hback hInv hS hF hY hc h1 h2 h3 hb hw hk hsb hsl
  unfold af87
  simp only[zipI,clampCs,List.cons_append,List.nil_append] at *
  (repeat (first|(with_reducible apply zad;(focus ((conv=>lhs;simp[*,Nat.testBit_eq_decide_div_mod_eq])<;>exact rfl));simp only[addFl])|((with_reducible first|apply zai|apply zak|apply zah|apply zaf|apply zac|apply zaj|apply zag|apply zam|(apply zae;· simp[*,zaa])|(apply zab;· simp[*,zaa]));try simp only[Then,Ops])|simp only[Nat.reduceEqDiff,reduceIte,OutB,Then]))
  with_reducible refine zaz hC c.piles.length (by unfold fuelL;omega) (fun i st=>∃ hp tc,Inv (Clm.sumTo c set k i) hp tc∧st={ tm:=tmA 45 [(14,.int .i64 i),(13,.int .i64 c.piles.length),(5,.ptr H.length 0),(3,.ptr b3 0),(2,.ptr b2 0),(1,.ptr b1 0),(0,.int .i64 k)],df:=[],hp:=hp,tc:=tc }) ?_ ?_ ?_
  · refine ⟨_,_,hI,?_⟩
    (refine st_is ?_ ?_ ?_ ?_;(focus (simp[zan,zaq]));(focus rfl);(focus (first|rfl|(simp;done)|(simp;rfl)));(focus rfl))
  · clear f0 f1 f2 f3 f4 f5 r0 r1 r2 r3 r4 r5 hI
    rintro i st hi ⟨hp,tc,hV,rfl⟩
    obtain ⟨⟨f0,f1,f2,f3,f4,f5⟩,⟨g0,g1,g2,g3,g4,g5⟩,⟨o0,o1,o2,o3,o4,o5⟩,⟨q0,q1,q2,q3,q4,q5⟩,⟨r0,r1,r2,r3,r4,r5⟩⟩:=HFa.out _ _ _ hV
    have hbit:=zxn (n:=set) (d:=i) (by omega)
    have hwi:IntKind.i64.wrap (↑i+1)=↑i+1:=zat (by omega) (by omega)
    obtain ⟨a0,a1,a2,a3⟩:=HSb.out.1 i (by omega)
    obtain ⟨l0,l1,l2,l3⟩:=HSb.out.2 i hi
    have hsuc:=Clm.sumTo_succ c set k i
    cases hb:set.testBit i with
    |false=>
      rw[hb] at hbit
      rw[if_neg (show ¬ (Clm.bit set i=true) by unfold Clm.bit;rw[hb];decide)] at hsuc
      rw[← hsuc] at hV
      simp at hbit
      clear hsuc
      generalize Clm.sumTo c set k i=s at *
      (repeat (first|(with_reducible apply zad;(focus ((conv=>lhs;simp[*,Nat.testBit_eq_decide_div_mod_eq])<;>exact rfl));simp only[addFl])|((with_reducible first|apply zai|apply zak|apply zah|apply zaf|apply zac|apply zaj|apply zag|apply zam|(apply zae;· simp[*,zaa])|(apply zab;· simp[*,zaa]));try simp only[Then,Ops,OutB])|simp only[Nat.reduceEqDiff,reduceIte,OutB,Then]))
      with_reducible refine ⟨_,_,hV,?_⟩
      (refine st_is ?_ ?_ ?_ ?_;(focus (simp[zan,zaq]));(focus rfl);(focus (first|rfl|(simp;done)|(simp;rfl)));(focus rfl))
    |true=>
      rw[hb] at hbit
      rw[if_pos (show Clm.bit set i=true from hb)] at hsuc
      simp at hbit
      obtain ⟨hp',tc',s1,s2,s3,s4⟩:=HSp.out _ _ _ hV i hi
      obtain ⟨x0,x1,x2,x3,x4,x5⟩:=bk' s3
      have w1:IntKind.i64.wrap ((Clm.sumTo c set k i).lo+(Clm.spanOf c i k (Clm.leftW c)).lo)=(Clm.sumTo c set k i).lo+(Clm.spanOf c i k (Clm.leftW c)).lo:=zat (by omega) (by omega)
      have w2:IntKind.i64.wrap ((Clm.sumTo c set k i).hi+(Clm.spanOf c i k (Clm.leftW c)).hi)=(Clm.sumTo c set k i).hi+(Clm.spanOf c i k (Clm.leftW c)).hi:=zat (by omega) (by omega)
      have n1:¬ hp'.length<H.length:=by omega
      have n2:¬ H.length<H.length:=by omega
      have hn:=s4 (Clm.sumTo c set k (i+1))
      rw[hsuc] at hn
      simp only at hn
      have HN:=hideP (And.intro hn hsuc)
      clear hn hsuc a0 a1 a2 a3 l0 l1 l2 l3 s4
      generalize Clm.sumTo c set k i=s at *
      generalize Clm.spanOf c i k (Clm.leftW c)=t at *
      (repeat (first|(with_reducible apply zad;(focus ((conv=>lhs;simp[*,Nat.testBit_eq_decide_div_mod_eq])<;>exact rfl));simp only[addFl])|((with_reducible first|apply zai|apply zak|apply zah|apply zaf|apply zac|apply zaj|apply zag|apply zam|(apply zae;· simp[*,zaa])|(apply zab;· simp[*,zaa]));try simp only[Then,Ops,OutB])|simp only[Nat.reduceEqDiff,reduceIte,OutB,Then]))
      obtain ⟨hn,hsuc⟩:=HN.out
      have hn2:=hn [.cells [.int .i64 t.lo,.int .i64 t.hi]]
      rw[← hsuc] at hn2
      with_reducible refine ⟨_,_,hn2,?_⟩
      (refine st_is ?_ ?_ ?_ ?_;(focus (simp[zan,zaq]));(focus rfl);(focus (first|rfl|(simp;done)|(simp;rfl)));(focus rfl))
  · clear f0 f1 f2 f3 f4 f5 r0 r1 r2 r3 r4 r5 hI
    rintro st ⟨hp,tc,hV,rfl⟩
    obtain ⟨⟨f0,f1,f2,f3,f4,f5⟩,⟨g0,g1,g2,g3,g4,g5⟩,⟨o0,o1,o2,o3,o4,o5⟩,⟨q0,q1,q2,q3,q4,q5⟩,⟨r0,r1,r2,r3,r4,r5⟩⟩:=HFa.out _ _ _ hV
    have n2:¬ H.length<H.length:=by omega
    generalize Clm.sumTo c set k c.piles.length=s at *
    (repeat (first|(with_reducible apply zad;(focus ((conv=>lhs;simp[*,Nat.testBit_eq_decide_div_mod_eq])<;>exact rfl));simp only[addFl])|((with_reducible first|apply zai|apply zak|apply zah|apply zaf|apply zac|apply zaj|apply zag|apply zam|(apply zae;· simp[*,zaa])|(apply zab;· simp[*,zaa]));try simp only[Then,Ops,OutB,reduceIte])|simp only[Nat.reduceEqDiff,reduceIte,OutB,Then]))
    obtain ⟨k0,k1,k2,k3⟩:=HBk.out _ _ _ hV
    refine zao (v:=spA s) (.inl rfl) rfl (by simp;omega) (by simp only[resL,resOf,zal];simp[resV,pickC,spA,q0]) ⟨rfl,k0,k1.set _ _ (by omega),k2.kp ((Kp.refl [H.length] _).set _ _ (by simp)) (by simp<;>omega) (by simp<;>omega)⟩
def LeftC (call:CallF)(c:Clm.Cl):Prop:=∀ (H:List AB) (yb:Nat) (w:AV),H[yb]?=some (.cells (clampCs c++[w]))→∀ (n:Nat) (pack:Int) (wy:Clm.Way),call (.fn (.func 40) [.ptr yb 0] []) [.agg (wayCs n pack wy)] H=some (.ret (.agg [.int .i64 (Clm.leftW c wy).lo,.int .i64 (Clm.leftW c wy).hi]),H,[])
theorem left_way {call:CallF}{c:Clm.Cl}(h:LeftC call c)(yb mb n:Nat)(pack:Int)(H0:List AB):WayF call (.fn (.func 40) [.ptr yb 0] []) c yb mb n pack H0 (Clm.leftW c):=
  fun G _ hY w _=>h G yb _ hY.y n pack w
theorem zxx (C:Cfg)(n:Nat)(hC:C.calm=true)(h78:Has C 87 af87)(c:Clm.Cl)(hc:Clm.Fine c)(hL:LeftC (Ev.call C n) c)(hS:SpanC C n c)(hH:HullC C (n+2) c)(H:List AB)(yb mb:Nat)(hY:Yd c yb mb H)(set:Nat):
    Does (ev C (Ev.call C (n+5)) H.length none af48.body { tm:=tmA af48.ntmps (zipI 0 [.ptr yb 0,.int .u64 set] []),df:=[],hp:=H,tc:=[] })
      (Ends C H.length af48.res fun v hp tc=>v=spA (Clm.together c set)∧(∀ j∈tc,j=mb)∧Kp tc H hp∧Yd c yb mb hp):=by
  have hml:mb<H.length:=by obtain ⟨es,hm,_⟩:=hY.m;exact get_lt hm
  have hyl:=get_lt hY.y
  obtain ⟨H0,hH0⟩:∃ H0,H0=H++[.cells [.ptr yb 0],.cells [.int .u64 set],.cells [.int .i64 0,.int .i64 0],.cells [.fn (.func 40) [.ptr yb 0] []]]:=⟨_,rfl⟩
  obtain ⟨H1, tc1, c1, c2, c3, c4⟩ := hH H0 yb mb (by rw [hH0]; exact hY.app _) (.func 87) [] [.ptr H.length 0, .ptr (H.length + 1) 0, .ptr (H.length + 3) 0] (fun k => Clm.sumTo c set k c.piles.length) (by
    intro G hG hYG k hk
    have hat:∀ {j x},H0[j]?=some x→H.length≤j→G[j]?=some x:=fun hx hj=>hG.at hx (by simp;omega)
    exact zdh hC h78 (Nat.le_of_ble_eq_true rfl) hYG (ztx C n hC c hc hS G yb mb hYG (.fn (.func 40) [.ptr yb 0] []) rfl set H.length (H.length+1) (H.length+3) (hat (by rw[hH0];simp) (by omega)) (hat (by rw[hH0];simp) (by omega)) (hat (by rw[hH0];simp) (by omega)) ⟨by omega,by omega,by omega⟩ k hk fun i _=>left_way hL yb mb i k G))
  have e1:H1[H.length+2]?=some (.cells [.int .i64 0,.int .i64 0]):=c3.at (by rw[hH0];simp) (fun h=>by have:=c2 _ h;omega)
  obtain ⟨f0,f1,f2,f3,f4,f5⟩:=bk' e1
  have n1:∀ n,¬ H.length+n<H.length:=by omega
  rw[hH0] at c1 c3
  rw[Clm.together_eq]
  generalize Clm.hull ((Clm.packs c (Clm.every c)).map fun k=>Clm.sumTo c set k c.piles.length)=sp at *
  have HA:=hideP (And.intro c2 (And.intro c3 c4))
  clear hS hY c2 c3 c4 hc hH hH0 hL
  unfold af48
  simp only[zipI] at *
  (repeat (first|(with_reducible apply zad;(focus ((conv=>lhs;simp[*,Nat.testBit_eq_decide_div_mod_eq])<;>exact rfl));simp only[addFl])|((with_reducible first|apply zai|apply zak|apply zah|apply zaf|apply zac|apply zaj|apply zag|apply zam|(apply zae;· simp[*,zaa])|(apply zab;· simp[*,zaa]));try simp only[Then,Ops])|simp only[Nat.reduceEqDiff,reduceIte,OutB,Then]))
  obtain ⟨c2,c3,c4⟩:=HA.out
  have hf:tc1.filter (·<H.length)=tc1:=List.filter_eq_self.2 fun j hj=>by have:=c2 j hj;simp;omega
  rw[hf]
  refine zao (v:=spA sp) (.inl rfl) rfl (by simp;omega) (by simp only[resL,resOf,zal];simp[resV,pickC,spA,f0]) ⟨rfl,c2,c3.pre.set _ _ (by omega),c4.kp ((Kp.refl [H.length+2] _).set _ _ (by simp)) (by simp<;>omega) (by simp<;>omega)⟩
end K
end Ev
end Go.Proofs.YtimgnlellflciaaGreat

/- Package clamp, gone through: open, which panics unless clamps are valid. -/
namespace Go.Proofs.YtimgnlellflciaaGreat
open Go
namespace Ev
namespace K
attribute [local simp] ev1 wantG spineK spine float xnew xval xeff zaa zar zbb zau zav addFl cellsOf pickC alive slLen slFt binI maxA maxK minA minK aeqK aeqS AV.cells spA zas fillA setAt bitsI nat_nn zbe AV.plain apart
set_option maxRecDepth 100000
set_option maxHeartbeats 4000000
def stopV (e:Int):AV:=.iface 104 (.agg [.int .i64 e])
structure MustC (call:CallF):Prop where
  t:∀ H e,call (.fn (.func 65) [] []) [.bool true,.int .i64 e] H=some (.ret (.tup []),H,[])
  f:∀ H e,call (.fn (.func 65) [] []) [.bool false,.int .i64 e] H=some (.pan (.iface 104 (.agg [.int .i64 e])),H,[])
def IsSpanC (call:CallF):Prop:=∀ (H:List AB) (s:Clm.Sp) (a b w:Int),a=0∨a=1→b≤5000→call (.fn (.func 85) [] []) [.agg [.int .i64 s.lo,.int .i64 s.hi],.int .i64 a,.int .i64 b,.int .i64 w] H=some (.ret (.bool (Clm.isSpan s a b w)),H,[])
def IsPileC (call:CallF)(c:Clm.Cl):Prop:=∀ (H:List AB) (yb:Nat) (w:AV),H[yb]?=some (.cells (clampCs c++[w]))→∀ n:Int,call (.fn (.func 53) [] []) [.ptr yb 0,.int .i64 n] H=some (.ret (.bool (decide (0≤n∧n<c.piles.length))),H,[])
def Fin (C:Cfg)(pin:Nat)(fn:AFunc)(Q:CRes→List AB→List Nat→Prop)(e:AExit)(st:St):Prop:=∃ x st',finish C pin fn e st=some (x,st')∧pin≤st'.hp.length∧Q x st'.hp st'.tc
theorem zbq {C:Cfg}{pin:Nat}{fn:AFunc}{Q:CRes→List AB→List Nat→Prop}{v:AV}{st:St}(hd:st.df=[])(hl:pin≤st.hp.length)(hq:Q (.pan v) st.hp st.tc):Fin C pin fn Q (.panic v) st:=⟨_,_,zsc hd,hl,hq⟩
theorem ziu {C:Cfg}{pin:Nat}{fn:AFunc}{Q:CRes→List AB→List Nat→Prop}{e:AExit}{st:St}{v:AV}(he:e=.ret∨e=.normal)(hd:st.df=[])(hl:pin≤st.hp.length)(hr:(resL st fn.res).map resV=some v)(hq:Q (.ret v) st.hp st.tc):Fin C pin fn Q e st:=by
  obtain ⟨x,st',h1,h2,v',h3,h4⟩:=ziw (Q:=fun v hp tc=>Q (.ret v) hp tc) (zao he hd hl hr hq)
  exact ⟨x,st',h1,h2,by rw[h3];exact h4⟩
def pileOk (p:Clm.Pl):Bool:=Clm.isSpan p.long 1 10 1&&Clm.isSpan p.wide 1 10 1&&Clm.isSpan p.high 1 10 1
def evtOk (c:Clm.Cl)(v:Clm.Evt):Bool:=decide (0≤v.clamp∧v.clamp<c.piles.length)&&decide (v.kind=0∨v.kind=1)&&Clm.isSpan v.sods 0 5000 (if v.kind=0 then 3 else 5000)
def headOk (c:Clm.Cl):Bool:=decide (1≤c.piles.length∧c.piles.length≤4)&&Clm.isSpan c.pack 1 5 2&&decide (c.events.length≤6)
theorem zpk (c:Clm.Cl):Clm.valid c=(headOk c&&c.piles.all pileOk&&c.events.all (evtOk c)):=rfl
def OpenQ (c:Clm.Cl)(is:Bool)(H:List AB)(x:CRes)(hp:List AB)(tc:List Nat):Prop:=
  tc=[]∧((Clm.valid c=false∧x=.pan (stopV 1))∨(Clm.valid c=true∧is=false∧x=.pan (stopV 2))∨(Clm.valid c=true∧is=true∧∃ yb mb,x=.ret (.ptr yb 0)∧Kp [] H hp∧Yd c yb mb hp∧H.length≤yb∧H.length≤mb))
theorem zvh (C:Cfg)(hC:C.calm=true)(call:CallF)(hM:MustC call)(hS:IsSpanC call)(hWi:WithinC call)(c:Clm.Cl)(hP:c.piles.length≤4→IsPileC call c)(hbig:c.piles.length≤1000000∧c.events.length≤1000000)(H:List AB)(F:AV)(is:Bool)(hF:Clm.valid c=true→∀ G yb mb,Kp [] H G→Yd c yb mb G→call F [.ptr yb 0] G=some (.ret (.bool is),G,[])):
    Does (ev C call H.length none af45.body { tm:=tmA af45.ntmps (zipI 0 [.agg (clampCs c),F] []),df:=[],hp:=H,tc:=[] })
      (Fin C H.length af45 (OpenQ c is H)):=by
  have hmt:=hM.t
  have hmf:=hM.f
  have hw1:=fun H=>hWi H (c.piles.length:Int) 1 4
  have hs1:=fun H=>hS H c.pack 1 5 2 (.inr rfl) (by decide)
  have e1:decide ((1:Int)≤c.piles.length∧(c.piles.length:Int)≤4)=decide (1≤c.piles.length∧c.piles.length≤4):=by congr 1;simp;omega
  rw[e1] at hw1
  have hhead:headOk c=(decide (1≤c.piles.length∧c.piles.length≤4)&&Clm.isSpan c.pack 1 5 2&&decide (c.events.length≤6)):=rfl
  have hv:=zpk c
  rw[hhead] at hv
  have hS1:=fun H s=>hS H s 1 10 1 (.inr rfl) (by decide)
  have hS2:=fun H s w=>hS H s 0 5000 w (.inl rfl) (by decide)
  have hWk:=fun H n=>hWi H n 0 1
  have HH:=hideP (And.intro hF (And.intro hbig (And.intro hWk (And.intro hS2 (And.intro hS1 (And.intro hP hv))))))
  clear e1 hhead hF hM hS hWi hP hbig hS1 hS2 hWk
  unfold af45
  simp only[zipI,clampCs] at *
  cases h1:decide (1≤c.piles.length∧c.piles.length≤4) with
  |false=>
    rw[h1] at hw1 hv
    have HV:=hideP hv
    clear h1 hv
    (repeat (first|(with_reducible apply zad;(focus ((conv=>lhs;simp[*,Nat.testBit_eq_decide_div_mod_eq])<;>exact rfl));simp only[addFl])|(with_reducible apply zay;(focus ((conv=>lhs;simp[*,Nat.testBit_eq_decide_div_mod_eq])<;>exact rfl));(try simp only[Ops,Then]);(try dsimp only))|((with_reducible first|apply zai|apply zak|apply zah|apply zaf|apply zac|apply zaj|apply zag|apply zam|(apply zae;· simp[*,zaa])|(apply zab;· simp[*,zaa]));try simp only[Then,Ops])|simp only[Nat.reduceEqDiff,reduceIte,OutB,Then]))
    exact zbq rfl (by simp) ⟨rfl,.inl ⟨by rw[HV.out];rfl,rfl⟩⟩
  |true=>
    rw[h1] at hw1 hv
    have h1:=of_decide_eq_true h1
    cases h2:Clm.isSpan c.pack 1 5 2 with
    |false=>
      rw[h2] at hs1 hv
      have HV:=hideP hv
      clear h1 h2 hv
      (repeat (first|(with_reducible apply zad;(focus ((conv=>lhs;simp[*,Nat.testBit_eq_decide_div_mod_eq])<;>exact rfl));simp only[addFl])|(with_reducible apply zay;(focus ((conv=>lhs;simp[*,Nat.testBit_eq_decide_div_mod_eq])<;>exact rfl));(try simp only[Ops,Then]);(try dsimp only))|((with_reducible first|apply zai|apply zak|apply zah|apply zaf|apply zac|apply zaj|apply zag|apply zam|(apply zae;· simp[*,zaa])|(apply zab;· simp[*,zaa]));try simp only[Then,Ops])|simp only[Nat.reduceEqDiff,reduceIte,OutB,Then]))
      exact zbq rfl (by simp) ⟨rfl,.inl ⟨by rw[HV.out];rfl,rfl⟩⟩
    |true=>
      rw[h2] at hs1 hv
      clear h2
      by_cases h3:c.events.length≤6
      · have h3':(c.events.length:Int)≤6:=by omega
        rw[decide_eq_true h3] at hv
        simp only[Bool.true_and] at hv
        have HV:=hideP hv
        clear hv
        (repeat (first|(with_reducible apply zad;(focus ((conv=>lhs;simp[*,Nat.testBit_eq_decide_div_mod_eq])<;>exact rfl));simp only[addFl])|(with_reducible apply zay;(focus ((conv=>lhs;simp[*,Nat.testBit_eq_decide_div_mod_eq])<;>exact rfl));(try simp only[Ops,Then,OutB]);(try dsimp only))|((with_reducible first|apply zai|apply zak|apply zah|apply zaf|apply zac|apply zaj|apply zag|apply zam|(apply zae;· simp[*,zaa])|(apply zab;· simp[*,zaa]));try simp only[Then,Ops])|simp only[Nat.reduceEqDiff,reduceIte,OutB,Then]))
        clear hw1 hs1
        obtain ⟨hF,hbig,hWk,hS2,hS1,hP,_⟩:=HH.out
        clear HH
        have HH:=hideP (And.intro hF (And.intro hbig (And.intro hWk (And.intro hS2 hP))))
        clear hF hWk hS2 hP
        have hpb:=hbig.1
        with_reducible refine zaz hC c.piles.length (by unfold fuelL;omega) (fun i st=>∃ J,(∀ j p,j<i→c.piles[j]?=some p→pileOk p=true)∧st={ tm:=tmA 93 [(34,.int .i64 i),(33,.int .i64 c.piles.length),(32,.vs 6 (c.piles.map pileE)),(5,.fn (.func 85) [] []),(2,.ptr H.length 0),(1,F)],df:=[],hp:=H++.cells [.vs 6 (c.piles.map pileE),.int .i64 c.pack.lo,.int .i64 c.pack.hi,.vs 4 (c.events.map evtE)]::J,tc:=[] }) ?_ ?_ ?_
        · refine ⟨[],by simp,?_⟩
          (refine st_is ?_ ?_ ?_ ?_;(focus (simp[zan,zaq]));(focus rfl);(focus (first|rfl|(simp;done)|(simp;rfl)));(focus rfl))
        · rintro i st hi ⟨J,hok,rfl⟩
          have hgp:c.piles[i]?=some c.piles[i]:=List.getElem?_eq_getElem hi
          generalize c.piles[i]=p at hgp
          have hgp':=ge_of hgp
          have hwi:IntKind.i64.wrap (↑i+1)=↑i+1:=zat (by omega) (by omega)
          have HO:=hideP hok
          clear hok
          (repeat (first|(with_reducible apply zad;(focus ((conv=>lhs;simp[*,pileE,Nat.testBit_eq_decide_div_mod_eq])<;>exact rfl));simp only[addFl])|((with_reducible first|apply zai|apply zak|apply zah|apply zaf|apply zac|apply zaj|apply zag|apply zam|(apply zae;· simp[*,zaa])|(apply zab;· simp[*,zaa]));try simp only[Then,Ops,OutB])|simp only[Nat.reduceEqDiff,reduceIte,OutB,Then]))
          obtain ⟨C0,hC0⟩:∃ C0:AB,C0=.cells [.vs 6 (c.piles.map pileE),.int .i64 c.pack.lo,.int .i64 c.pack.hi,.vs 4 (c.events.map evtE)]:=⟨_,rfl⟩
          obtain ⟨G2,hG2⟩:∃ G2:List AB,G2=H++C0::(J++[.cells [.int .i64 p.long.lo,.int .i64 p.long.hi,.int .i64 p.wide.lo,.int .i64 p.wide.hi,.int .i64 p.high.lo,.int .i64 p.high.hi],.cells [.int .i64 p.long.lo,.int .i64 p.long.hi,.int .i64 p.wide.lo,.int .i64 p.wide.hi,.int .i64 p.high.lo,.int .i64 p.high.hi]]):=⟨_,rfl⟩
          have hsb:G2[H.length+(J.length+1+1)]?=some (.cells [.int .i64 p.long.lo,.int .i64 p.long.hi,.int .i64 p.wide.lo,.int .i64 p.wide.hi,.int .i64 p.high.lo,.int .i64 p.high.hi]):=by rw[hG2];simp
          obtain ⟨f0,f1,f2,f3,f4,f5⟩:=bk' hsb
          have hlG:H.length<G2.length:=by omega
          have nG:∀ n,¬ G2.length+n<H.length:=by omega
          refine zaz hC 3 (by decide) (fun j st=>∃ J2,(1≤j→Clm.isSpan p.long 1 10 1=true)∧(2≤j→Clm.isSpan p.wide 1 10 1=true)∧(3≤j→Clm.isSpan p.high 1 10 1=true)∧st={ tm:=tmA 93 [(46,.int .i64 j),(45,.int .i64 3),(44,.sl (H.length+(J.length+1+1)) 0 3 2),(34,.int .i64 i),(33,.int .i64 c.piles.length),(32,.vs 6 (c.piles.map pileE)),(5,.fn (.func 85) [] []),(2,.ptr H.length 0),(1,F)],df:=[],hp:=G2++J2,tc:=[] }) ?_ ?_ ?_
          · refine ⟨[],fun h=>by omega,fun h=>by omega,fun h=>by omega,?_⟩
            refine st_is ?_ rfl ?_ rfl
            · simp[zan,zaq]
            · rw[hG2,hC0];simp
          · rintro j st hj ⟨J2,q1,q2,q3,rfl⟩
            have hbad:∀ X:Prop,pileOk p=false→Clm.valid c=false:=fun _ h=>by
              rw[HV.out]
              have:c.piles.all pileOk=false:=by
                rw[List.all_eq_false]
                exact ⟨p,List.mem_of_getElem? hgp,by rw[h];decide⟩
              rw[this];simp
            have HB:=hideP hbad
            have HQ:=hideP (And.intro q1 (And.intro q2 q3))
            obtain rfl|rfl|rfl:j=0∨j=1∨j=2:=by omega
            · have hs:=fun H=>hS1 H p.long
              have w1:IntKind.i64.wrap 1=1:=by decide
              clear hbad q1 q2 q3 hG2 hC0 hS1 hgp hgp'
              cases hb:Clm.isSpan p.long 1 10 1 with
              |false=>
                rw[hb] at hs
                (repeat (first|(with_reducible apply zad;(focus ((conv=>lhs;simp[*,Nat.testBit_eq_decide_div_mod_eq])<;>exact rfl));simp only[addFl])|(with_reducible apply zay;(focus ((conv=>lhs;simp[*,Nat.testBit_eq_decide_div_mod_eq])<;>exact rfl));(try simp only[Ops,Then,OutB]);(try dsimp only))|((with_reducible first|apply zai|apply zak|apply zah|apply zaf|apply zac|apply zaj|apply zag|apply zam|(apply zae;· simp[*,zaa])|(apply zab;· simp[*,zaa]));try simp only[Then,Ops,OutB])|simp only[Nat.reduceEqDiff,reduceIte,OutB,Then]))
                exact zbq rfl (by simp;omega) ⟨rfl,.inl ⟨HB.out True (by unfold pileOk;rw[hb];rfl),rfl⟩⟩
              |true=>
                rw[hb] at hs
                (repeat (first|(with_reducible apply zad;(focus ((conv=>lhs;simp[*,Nat.testBit_eq_decide_div_mod_eq])<;>exact rfl));simp only[addFl])|(with_reducible apply zay;(focus ((conv=>lhs;simp[*,Nat.testBit_eq_decide_div_mod_eq])<;>exact rfl));(try simp only[Ops,Then,OutB]);(try dsimp only))|((with_reducible first|apply zai|apply zak|apply zah|apply zaf|apply zac|apply zaj|apply zag|apply zam|(apply zae;· simp[*,zaa])|(apply zab;· simp[*,zaa]));try simp only[Then,Ops,OutB])|simp only[Nat.reduceEqDiff,reduceIte,OutB,Then]))
                with_reducible refine ⟨?_,fun _=>(by first|trivial|exact hb),fun h=>absurd h (by omega),fun h=>absurd h (by omega),?_⟩
                rotate_left
                (refine st_is ?_ ?_ ?_ ?_;(focus (simp[zan,zaq]));(focus rfl);(focus (first|rfl|(simp;done)|(simp;rfl)));(focus rfl))
            · have hs:=fun H=>hS1 H p.wide
              have w1:IntKind.i64.wrap 2=2:=by decide
              have hb1:=q1 (by omega)
              clear hbad q1 q2 q3 hG2 hC0 hS1 hgp hgp'
              cases hb:Clm.isSpan p.wide 1 10 1 with
              |false=>
                rw[hb] at hs
                (repeat (first|(with_reducible apply zad;(focus ((conv=>lhs;simp[*,Nat.testBit_eq_decide_div_mod_eq])<;>exact rfl));simp only[addFl])|(with_reducible apply zay;(focus ((conv=>lhs;simp[*,Nat.testBit_eq_decide_div_mod_eq])<;>exact rfl));(try simp only[Ops,Then,OutB]);(try dsimp only))|((with_reducible first|apply zai|apply zak|apply zah|apply zaf|apply zac|apply zaj|apply zag|apply zam|(apply zae;· simp[*,zaa])|(apply zab;· simp[*,zaa]));try simp only[Then,Ops,OutB])|simp only[Nat.reduceEqDiff,reduceIte,OutB,Then]))
                exact zbq rfl (by simp;omega) ⟨rfl,.inl ⟨HB.out True (by unfold pileOk;rw[hb];simp),rfl⟩⟩
              |true=>
                rw[hb] at hs
                (repeat (first|(with_reducible apply zad;(focus ((conv=>lhs;simp[*,Nat.testBit_eq_decide_div_mod_eq])<;>exact rfl));simp only[addFl])|(with_reducible apply zay;(focus ((conv=>lhs;simp[*,Nat.testBit_eq_decide_div_mod_eq])<;>exact rfl));(try simp only[Ops,Then,OutB]);(try dsimp only))|((with_reducible first|apply zai|apply zak|apply zah|apply zaf|apply zac|apply zaj|apply zag|apply zam|(apply zae;· simp[*,zaa])|(apply zab;· simp[*,zaa]));try simp only[Then,Ops,OutB])|simp only[Nat.reduceEqDiff,reduceIte,OutB,Then]))
                with_reducible refine ⟨?_,fun _=>hb1,fun _=>(by first|trivial|exact hb),fun h=>absurd h (by omega),?_⟩
                rotate_left
                (refine st_is ?_ ?_ ?_ ?_;(focus (simp[zan,zaq]));(focus rfl);(focus (first|rfl|(simp;done)|(simp;rfl)));(focus rfl))
            · have hs:=fun H=>hS1 H p.high
              have w1:IntKind.i64.wrap 3=3:=by decide
              have hb1:=q1 (by omega)
              have hb2:=q2 (by omega)
              clear hbad q1 q2 q3 hG2 hC0 hS1 hgp hgp'
              cases hb:Clm.isSpan p.high 1 10 1 with
              |false=>
                rw[hb] at hs
                (repeat (first|(with_reducible apply zad;(focus ((conv=>lhs;simp[*,Nat.testBit_eq_decide_div_mod_eq])<;>exact rfl));simp only[addFl])|(with_reducible apply zay;(focus ((conv=>lhs;simp[*,Nat.testBit_eq_decide_div_mod_eq])<;>exact rfl));(try simp only[Ops,Then,OutB]);(try dsimp only))|((with_reducible first|apply zai|apply zak|apply zah|apply zaf|apply zac|apply zaj|apply zag|apply zam|(apply zae;· simp[*,zaa])|(apply zab;· simp[*,zaa]));try simp only[Then,Ops,OutB])|simp only[Nat.reduceEqDiff,reduceIte,OutB,Then]))
                exact zbq rfl (by simp;omega) ⟨rfl,.inl ⟨HB.out True (by unfold pileOk;rw[hb];simp),rfl⟩⟩
              |true=>
                rw[hb] at hs
                (repeat (first|(with_reducible apply zad;(focus ((conv=>lhs;simp[*,Nat.testBit_eq_decide_div_mod_eq])<;>exact rfl));simp only[addFl])|(with_reducible apply zay;(focus ((conv=>lhs;simp[*,Nat.testBit_eq_decide_div_mod_eq])<;>exact rfl));(try simp only[Ops,Then,OutB]);(try dsimp only))|((with_reducible first|apply zai|apply zak|apply zah|apply zaf|apply zac|apply zaj|apply zag|apply zam|(apply zae;· simp[*,zaa])|(apply zab;· simp[*,zaa]));try simp only[Then,Ops,OutB])|simp only[Nat.reduceEqDiff,reduceIte,OutB,Then]))
                with_reducible refine ⟨?_,fun _=>hb1,fun _=>hb2,fun _=>(by first|trivial|exact hb),?_⟩
                rotate_left
                (refine st_is ?_ ?_ ?_ ?_;(focus (simp[zan,zaq]));(focus rfl);(focus (first|rfl|(simp;done)|(simp;rfl)));(focus rfl))
          · rintro st ⟨J2,q1,q2,q3,rfl⟩
            have hpo:pileOk p=true:=by unfold pileOk;rw[q1 (by omega),q2 (by omega),q3 (by omega)];rfl
            clear q1 q2 q3
            have hnext:∀ j q,j<i+1→c.piles[j]?=some q→pileOk q=true:=by
              intro j q hj hq
              by_cases h:j=i
              · subst h;rw[hgp] at hq;cases hq;exact hpo
              · exact HO.out j q (by omega) hq
            have HN:=hideP hnext
            clear hnext hS1 hgp hgp'
            have HG:=hideP (And.intro hG2 hC0)
            clear hG2 hC0
            (repeat (first|(with_reducible apply zad;(focus ((conv=>lhs;simp[*,Nat.testBit_eq_decide_div_mod_eq])<;>exact rfl));simp only[addFl])|((with_reducible first|apply zai|apply zak|apply zah|apply zaf|apply zac|apply zaj|apply zag|apply zam|(apply zae;· simp[*,zaa])|(apply zab;· simp[*,zaa]));try simp only[Then,Ops,OutB,reduceIte])|simp only[Nat.reduceEqDiff,reduceIte,OutB,Then]))
            obtain ⟨hG2,hC0⟩:=HG.out
            with_reducible refine ⟨J++[.cells [.int .i64 p.long.lo,.int .i64 p.long.hi,.int .i64 p.wide.lo,.int .i64 p.wide.hi,.int .i64 p.high.lo,.int .i64 p.high.hi],.cells [.int .i64 p.long.lo,.int .i64 p.long.hi,.int .i64 p.wide.lo,.int .i64 p.wide.hi,.int .i64 p.high.lo,.int .i64 p.high.hi]]++J2,HN.out,?_⟩
            refine st_is ?_ rfl ?_ rfl
            · simp[zan,zaq]
            · rw[hG2,hC0];simp
        · rintro st ⟨J,hok,rfl⟩
          obtain ⟨hF,hbig,hWk,hS2,hP⟩:=HH.out
          have hPi:=hP h1.2
          clear hS1 hP
          have hall:c.piles.all pileOk=true:=by
            rw[List.all_eq_true]
            intro p hp
            obtain ⟨j,hj⟩:=List.mem_iff_getElem?.1 hp
            exact hok j p (List.getElem?_eq_some_iff.1 hj).1 hj
          have hv:=HV.out
          rw[hall,Bool.true_and] at hv
          obtain ⟨C0,hC0⟩:∃ C0:AB,C0=.cells [.vs 6 (c.piles.map pileE),.int .i64 c.pack.lo,.int .i64 c.pack.hi,.vs 4 (c.events.map evtE)]:=⟨_,rfl⟩
          obtain ⟨G,hG⟩:∃ G,G=H++C0::J:=⟨_,rfl⟩
          have h0:G[H.length]?=some (.cells [.vs 6 (c.piles.map pileE),.int .i64 c.pack.lo,.int .i64 c.pack.hi,.vs 4 (c.events.map evtE)]):=by rw[hG,hC0];simp
          have hKG:Kp [] H G:=by rw[hG];exact Kp.app _ _
          rw[← hC0,← hG]
          obtain ⟨f0,f1,f2,f3,f4,f5⟩:=bk' h0
          have nG:∀ n,¬ G.length+n<H.length:=by omega
          have nG0:¬ G.length<H.length:=by omega
          have HX:=hideP (And.intro hF (And.intro hWk (And.intro hS2 (And.intro hPi (And.intro hv hKG)))))
          clear hF hWk hS2 hPi hv hKG HH HV hok hall hG hC0 J h0
          (repeat (first|(with_reducible apply zad;(focus ((conv=>lhs;simp[*,Nat.testBit_eq_decide_div_mod_eq])<;>exact rfl));simp only[addFl])|((with_reducible first|apply zai|apply zak|apply zah|apply zaf|apply zac|apply zaj|apply zag|apply zam|(apply zae;· simp[*,zaa])|(apply zab;· simp[*,zaa]));try simp only[Then,Ops,OutB,reduceIte])|simp only[Nat.reduceEqDiff,reduceIte,OutB,Then]))
          obtain ⟨G3,hG3⟩:∃ G3,G3=G++[.map [],.cells [.vs 6 (c.piles.map pileE),.int .i64 c.pack.lo,.int .i64 c.pack.hi,.vs 4 (c.events.map evtE),.map G.length]]:=⟨_,rfl⟩
          have hlen3:G3.length=G.length+2:=by rw[hG3];simp
          have hYd3:Yd c (G.length+1) G.length G3:=⟨by omega,by rw[hG3];simp[clampCs],[],by rw[hG3];simp,by intro p hp;cases hp⟩
          have nG3:∀ n,¬ G3.length+n<H.length:=by omega
          have hlG3:H.length<G3.length:=by omega
          have hpb:=hbig.2
          with_reducible refine zaz hC c.events.length (by unfold fuelL;omega) (fun i st=>∃ J,(∀ j v,j<i→c.events[j]?=some v→evtOk c v=true)∧st={ tm:=tmA 93 [(63,.int .i64 i),(62,.int .i64 c.events.length),(61,.vs 4 (c.events.map evtE)),(10,.ptr (G.length+1) 0),(5,.fn (.func 85) [] []),(1,F)],df:=[],hp:=G3++J,tc:=[] }) ?_ ?_ ?_
          · refine ⟨[],by simp,?_⟩
            refine st_is ?_ rfl ?_ rfl
            · simp[zan,zaq]
            · rw[hG3];simp
          · rintro i st hi ⟨J,hok,rfl⟩
            obtain ⟨hF,hWk,hS2,hPi,hv,hKG⟩:=HX.out
            have hgv:c.events[i]?=some c.events[i]:=List.getElem?_eq_getElem hi
            generalize c.events[i]=v at hgv
            have hgv':=ge_of hgv
            have hwi:IntKind.i64.wrap (↑i+1)=↑i+1:=zat (by omega) (by omega)
            have hpi:=fun K=>hPi (G3++K) (G.length+1) _ (hYd3.app K).y v.clamp
            have hwk:=fun H=>hWk H v.kind
            have hkk:decide (v.kind=0∨v.kind=1)=decide (0≤v.kind∧v.kind≤1):=by congr 1;simp;omega
            have hbad:evtOk c v=false→Clm.valid c=false:=fun h=>by
              rw[hv,List.all_eq_false]
              exact ⟨v,List.mem_of_getElem? hgv,by rw[h];decide⟩
            have hnext:evtOk c v=true→∀ j q,j<i+1→c.events[j]?=some q→evtOk c q=true:=by
              intro ho j q hj hq
              by_cases h:j=i
              · subst h;rw[hgv] at hq;cases hq;exact ho
              · exact hok j q (by omega) hq
            have HB:=hideP hbad
            have HO:=hideP hnext
            clear hbad hnext hok hF hWk hPi hv hKG hG3 hYd3 hlen3 hgv f0 f1 f2 f3 f4 f5
            by_cases hk0:v.kind=0
            · have hs:=fun H=>hS2 H v.sods 3
              clear hS2
              simp only[hk0] at hwk
              simp at hwk
              cases hb1:decide (0≤v.clamp∧v.clamp<c.piles.length) with
              |false=>
                rw[hb1] at hpi
                have hev:evtOk c v=false:=by unfold evtOk;rw[hb1];rfl
                have HE:=hideP hev
                clear hev hb1 hkk
                (repeat (first|(with_reducible apply zad;(focus ((conv=>lhs;simp[*,evtE,Nat.testBit_eq_decide_div_mod_eq])<;>exact rfl));simp only[addFl])|(with_reducible apply zay;(focus ((conv=>lhs;simp[*,evtE,Nat.testBit_eq_decide_div_mod_eq])<;>exact rfl));(try simp only[Ops,Then,OutB]);(try dsimp only))|((with_reducible first|apply zai|apply zak|apply zah|apply zaf|apply zac|apply zaj|apply zag|apply zam|(apply zae;· simp[*,zaa])|(apply zab;· simp[*,zaa]));try simp only[Then,Ops,OutB])|simp only[Nat.reduceEqDiff,reduceIte,OutB,Then]))
                exact zbq rfl (by simp;omega) ⟨rfl,.inl ⟨HB.out HE.out,rfl⟩⟩
              |true=>
                rw[hb1] at hpi
                cases hb3:Clm.isSpan v.sods 0 5000 3 with
                |false=>
                  rw[hb3] at hs
                  have hev:evtOk c v=false:=by unfold evtOk;rw[if_pos hk0,hb3];simp
                  have HE:=hideP hev
                  clear hev hb1 hb3 hkk
                  (repeat (first|(with_reducible apply zad;(focus ((conv=>lhs;simp[*,evtE,Nat.testBit_eq_decide_div_mod_eq])<;>exact rfl));simp only[addFl])|(with_reducible apply zay;(focus ((conv=>lhs;simp[*,evtE,Nat.testBit_eq_decide_div_mod_eq])<;>exact rfl));(try simp only[Ops,Then,OutB]);(try dsimp only))|((with_reducible first|apply zai|apply zak|apply zah|apply zaf|apply zac|apply zaj|apply zag|apply zam|(apply zae;· simp[*,zaa])|(apply zab;· simp[*,zaa]));try simp only[Then,Ops,OutB])|simp only[Nat.reduceEqDiff,reduceIte,OutB,Then]))
                  exact zbq rfl (by simp;omega) ⟨rfl,.inl ⟨HB.out HE.out,rfl⟩⟩
                |true=>
                  rw[hb3] at hs
                  have hev:evtOk c v=true:=by unfold evtOk;rw[if_pos hk0,hb1,hb3,hk0];rfl
                  have HE:=hideP hev
                  clear hev hb1 hb3 hkk
                  (repeat (first|(with_reducible apply zad;(focus ((conv=>lhs;simp[*,evtE,Nat.testBit_eq_decide_div_mod_eq])<;>exact rfl));simp only[addFl])|(with_reducible apply zay;(focus ((conv=>lhs;simp[*,evtE,Nat.testBit_eq_decide_div_mod_eq])<;>exact rfl));(try simp only[Ops,Then,OutB]);(try dsimp only))|((with_reducible first|apply zai|apply zak|apply zah|apply zaf|apply zac|apply zaj|apply zag|apply zam|(apply zae;· simp[*,zaa])|(apply zab;· simp[*,zaa]));try simp only[Then,Ops,OutB])|simp only[Nat.reduceEqDiff,reduceIte,OutB,Then]))
                  with_reducible refine ⟨?_,HO.out HE.out,?_⟩
                  rotate_left
                  (refine st_is ?_ ?_ ?_ ?_;(focus (simp[zan,zaq]));(focus rfl);(focus (first|rfl|(simp;done)|(simp;rfl)));(focus rfl))
            · have hs:=fun H=>hS2 H v.sods 5000
              clear hS2
              cases hb1:decide (0≤v.clamp∧v.clamp<c.piles.length) with
              |false=>
                rw[hb1] at hpi
                have hev:evtOk c v=false:=by unfold evtOk;rw[hb1];rfl
                have HE:=hideP hev
                clear hev hb1 hkk
                (repeat (first|(with_reducible apply zad;(focus ((conv=>lhs;simp[*,evtE,Nat.testBit_eq_decide_div_mod_eq])<;>exact rfl));simp only[addFl])|(with_reducible apply zay;(focus ((conv=>lhs;simp[*,evtE,Nat.testBit_eq_decide_div_mod_eq])<;>exact rfl));(try simp only[Ops,Then,OutB]);(try dsimp only))|((with_reducible first|apply zai|apply zak|apply zah|apply zaf|apply zac|apply zaj|apply zag|apply zam|(apply zae;· simp[*,zaa])|(apply zab;· simp[*,zaa]));try simp only[Then,Ops,OutB])|simp only[Nat.reduceEqDiff,reduceIte,OutB,Then]))
                exact zbq rfl (by simp;omega) ⟨rfl,.inl ⟨HB.out HE.out,rfl⟩⟩
              |true=>
                rw[hb1] at hpi
                cases hb2:decide (0≤v.kind∧v.kind≤1) with
                |false=>
                  rw[hb2] at hwk
                  have hev:evtOk c v=false:=by unfold evtOk;rw[hkk,hb2];simp
                  have HE:=hideP hev
                  clear hev hb1 hb2 hkk
                  (repeat (first|(with_reducible apply zad;(focus ((conv=>lhs;simp[*,evtE,Nat.testBit_eq_decide_div_mod_eq])<;>exact rfl));simp only[addFl])|(with_reducible apply zay;(focus ((conv=>lhs;simp[*,evtE,Nat.testBit_eq_decide_div_mod_eq])<;>exact rfl));(try simp only[Ops,Then,OutB]);(try dsimp only))|((with_reducible first|apply zai|apply zak|apply zah|apply zaf|apply zac|apply zaj|apply zag|apply zam|(apply zae;· simp[*,zaa])|(apply zab;· simp[*,zaa]));try simp only[Then,Ops,OutB])|simp only[Nat.reduceEqDiff,reduceIte,OutB,Then]))
                  exact zbq rfl (by simp;omega) ⟨rfl,.inl ⟨HB.out HE.out,rfl⟩⟩
                |true=>
                  rw[hb2] at hwk
                  cases hb3:Clm.isSpan v.sods 0 5000 5000 with
                  |false=>
                    rw[hb3] at hs
                    have hev:evtOk c v=false:=by unfold evtOk;rw[if_neg hk0,hb3];simp
                    have HE:=hideP hev
                    clear hev hb1 hb2 hb3 hkk
                    (repeat (first|(with_reducible apply zad;(focus ((conv=>lhs;simp[*,evtE,Nat.testBit_eq_decide_div_mod_eq])<;>exact rfl));simp only[addFl])|(with_reducible apply zay;(focus ((conv=>lhs;simp[*,evtE,Nat.testBit_eq_decide_div_mod_eq])<;>exact rfl));(try simp only[Ops,Then,OutB]);(try dsimp only))|((with_reducible first|apply zai|apply zak|apply zah|apply zaf|apply zac|apply zaj|apply zag|apply zam|(apply zae;· simp[*,zaa])|(apply zab;· simp[*,zaa]));try simp only[Then,Ops,OutB])|simp only[Nat.reduceEqDiff,reduceIte,OutB,Then]))
                    exact zbq rfl (by simp;omega) ⟨rfl,.inl ⟨HB.out HE.out,rfl⟩⟩
                  |true=>
                    rw[hb3] at hs
                    have hev:evtOk c v=true:=by unfold evtOk;rw[if_neg hk0,hb1,hkk,hb2,hb3];rfl
                    have HE:=hideP hev
                    clear hev hb1 hb2 hb3 hkk
                    (repeat (first|(with_reducible apply zad;(focus ((conv=>lhs;simp[*,evtE,Nat.testBit_eq_decide_div_mod_eq])<;>exact rfl));simp only[addFl])|(with_reducible apply zay;(focus ((conv=>lhs;simp[*,evtE,Nat.testBit_eq_decide_div_mod_eq])<;>exact rfl));(try simp only[Ops,Then,OutB]);(try dsimp only))|((with_reducible first|apply zai|apply zak|apply zah|apply zaf|apply zac|apply zaj|apply zag|apply zam|(apply zae;· simp[*,zaa])|(apply zab;· simp[*,zaa]));try simp only[Then,Ops,OutB])|simp only[Nat.reduceEqDiff,reduceIte,OutB,Then]))
                    with_reducible refine ⟨?_,HO.out HE.out,?_⟩
                    rotate_left
                    (refine st_is ?_ ?_ ?_ ?_;(focus (simp[zan,zaq]));(focus rfl);(focus (first|rfl|(simp;done)|(simp;rfl)));(focus rfl))
          · rintro st ⟨J,hok,rfl⟩
            obtain ⟨hF,hWk,hS2,hPi,hv,hKG⟩:=HX.out
            have hval:Clm.valid c=true:=by
              rw[hv,List.all_eq_true]
              intro v hv'
              obtain ⟨j,hj⟩:=List.mem_iff_getElem?.1 hv'
              exact hok j v (List.getElem?_eq_some_iff.1 hj).1 hj
            have hKG3:Kp [] H G3:=by rw[hG3];exact hKG.trans (Kp.app _ _)
            have hF2:=hF hval (G3++J) (G.length+1) G.length (hKG3.trans (Kp.app _ _)) (hYd3.app J)
            have HQ:=hideP (And.intro hval (And.intro hKG3 hYd3))
            clear hF hWk hS2 hPi hv hKG hok hG3 hval hKG3 hYd3 HX hlen3 f0 f1 f2 f3 f4 f5
            cases is with
            |false=>
              (repeat (first|(with_reducible apply zad;(focus ((conv=>lhs;simp[*,Nat.testBit_eq_decide_div_mod_eq])<;>exact rfl));simp only[addFl])|(with_reducible apply zay;(focus ((conv=>lhs;simp[*,Nat.testBit_eq_decide_div_mod_eq])<;>exact rfl));(try simp only[Ops,Then]);(try dsimp only))|((with_reducible first|apply zai|apply zak|apply zah|apply zaf|apply zac|apply zaj|apply zag|apply zam|(apply zae;· simp[*,zaa])|(apply zab;· simp[*,zaa]));try simp only[Then,Ops,OutB,reduceIte])|simp only[Nat.reduceEqDiff,reduceIte,OutB,Then]))
              exact zbq rfl (by simp;omega) ⟨rfl,.inr (.inl ⟨HQ.out.1,rfl,rfl⟩)⟩
            |true=>
              (repeat (first|(with_reducible apply zad;(focus ((conv=>lhs;simp[*,Nat.testBit_eq_decide_div_mod_eq])<;>exact rfl));simp only[addFl])|(with_reducible apply zay;(focus ((conv=>lhs;simp[*,Nat.testBit_eq_decide_div_mod_eq])<;>exact rfl));(try simp only[Ops,Then,OutB]);(try dsimp only))|((with_reducible first|apply zai|apply zak|apply zah|apply zaf|apply zac|apply zaj|apply zag|apply zam|(apply zae;· simp[*,zaa])|(apply zab;· simp[*,zaa]));try simp only[Then,Ops,OutB,reduceIte])|simp only[Nat.reduceEqDiff,reduceIte,OutB,Then]))
              obtain ⟨k1,k2,k3⟩:=HQ.out
              exact ziu (v:=.ptr (G.length+1) 0) (.inl rfl) rfl (by simp;omega) (by simp only[resL,resOf,zal];simp[*,resV]) ⟨rfl,.inr (.inr ⟨k1,rfl,_,_,rfl,k2.trans (Kp.app _ _),k3.app _,by omega,by omega⟩)⟩
      · have h3':¬ (c.events.length:Int)≤6:=by omega
        rw[decide_eq_false h3] at hv
        have HV:=hideP hv
        clear hv
        (repeat (first|(with_reducible apply zad;(focus ((conv=>lhs;simp[*,Nat.testBit_eq_decide_div_mod_eq])<;>exact rfl));simp only[addFl])|(with_reducible apply zay;(focus ((conv=>lhs;simp[*,Nat.testBit_eq_decide_div_mod_eq])<;>exact rfl));(try simp only[Ops,Then]);(try dsimp only))|((with_reducible first|apply zai|apply zak|apply zah|apply zaf|apply zac|apply zaj|apply zag|apply zam|(apply zae;· simp[*,zaa])|(apply zab;· simp[*,zaa]));try simp only[Then,Ops])|simp only[Nat.reduceEqDiff,reduceIte,OutB,Then]))
        exact zbq rfl (by simp) ⟨rfl,.inl ⟨by rw[HV.out];rfl,rfl⟩⟩
end K
end Ev
end Go.Proofs.YtimgnlellflciaaGreat

/- Package clamp, gone through: clamps that have a truth. -/
namespace Go.Proofs.YtimgnlellflciaaGreat
open Go
namespace Ev
namespace K
attribute [local simp] ev1 wantG spineK spine float xnew xval xeff zaa zar zbb zau zav addFl cellsOf pickC alive slLen slFt binI maxA maxK minA minK aeqK aeqS AV.cells spA zas fillA setAt bitsI nat_nn zbe AV.plain apart
set_option maxRecDepth 100000
set_option maxHeartbeats 4000000
def errOf (c:Clm.Cl)(is:Bool):Int:=if Clm.valid c=false then 1 else if is=false then 2 else if Clm.can c (Clm.every c)=false then 10 else 0
def CanC (call:CallF)(c:Clm.Cl):Prop:=∀ (H:List AB) (yb mb:Nat),Yd c yb mb H→∀ counts:Nat,∃ H' tc,call (.fn (.func 66) [] []) [.ptr yb 0,.int .u64 counts] H=some (.ret (.bool (Clm.can c counts)),H',tc)∧(∀ j∈tc,j=mb)∧Kp tc H H'∧Yd c yb mb H'
theorem ztw (C:Cfg)(call:CallF)(hM:MustC call)(c:Clm.Cl)(hE:EveryC call c)(hCn:CanC call c)(H:List AB)(yb mb:Nat)(hY:Yd c yb mb H):
    Does (ev C call H.length none af47.body { tm:=tmA af47.ntmps (zipI 0 [.ptr yb 0] []),df:=[],hp:=H,tc:=[] })
      (Fin C H.length af47 fun x hp tc=>(∀ j∈tc,j=mb)∧Kp tc H hp∧Yd c yb mb hp∧x=if Clm.can c (Clm.every c) then .ret (.ptr yb 0) else .pan (stopV 10)):=by
  have hml:mb<H.length:=by obtain ⟨es,hm,_⟩:=hY.m;exact get_lt hm
  have hev:=hE H yb _ hY.y
  obtain ⟨H1,tc1,c1,c2,c3,c4⟩:=hCn H yb mb hY (Clm.every c)
  have hmt:=hM.t
  have hmf:=hM.f
  have hf:tc1.filter (·<H.length)=tc1:=List.filter_eq_self.2 fun j hj=>by have:=c2 j hj;simp;omega
  have HA:=hideP (And.intro c2 (And.intro c3 c4))
  clear hE hCn hM c2 c3 c4 hY
  unfold af47
  simp only[zipI]
  cases hcan:Clm.can c (Clm.every c) with
  |true=>
    rw[hcan] at c1
    (repeat (first|(with_reducible apply zad;(focus ((conv=>lhs;simp[*,Nat.testBit_eq_decide_div_mod_eq])<;>exact rfl));simp only[addFl])|(with_reducible apply zay;(focus ((conv=>lhs;simp[*,Nat.testBit_eq_decide_div_mod_eq])<;>exact rfl));(try simp only[Ops,Then,OutB]);(try dsimp only))|((with_reducible first|apply zai|apply zak|apply zah|apply zaf|apply zac|apply zaj|apply zag|apply zam|(apply zae;· simp[*,zaa])|(apply zab;· simp[*,zaa]));try simp only[Then,Ops,reduceIte])|simp only[Nat.reduceEqDiff,reduceIte,OutB,Then]))
    obtain ⟨c2,c3,c4⟩:=HA.out
    exact ziu (v:=.ptr yb 0) (.inl rfl) rfl c3.len (by simp only[resL,resOf,zal];simp[*,resV]) ⟨c2,c3,c4,rfl⟩
  |false=>
    rw[hcan] at c1
    (repeat (first|(with_reducible apply zad;(focus ((conv=>lhs;simp[*,Nat.testBit_eq_decide_div_mod_eq])<;>exact rfl));simp only[addFl])|(with_reducible apply zay;(focus ((conv=>lhs;simp[*,Nat.testBit_eq_decide_div_mod_eq])<;>exact rfl));(try simp only[Ops,Then]);(try dsimp only))|((with_reducible first|apply zai|apply zak|apply zah|apply zaf|apply zac|apply zaj|apply zag|apply zam|(apply zae;· simp[*,zaa])|(apply zab;· simp[*,zaa]));try simp only[Then,Ops])|simp only[Nat.reduceEqDiff,reduceIte,OutB,Then]))
    obtain ⟨c2,c3,c4⟩:=HA.out
    exact zbq rfl c3.len ⟨c2,c3,c4,rfl⟩
def OpenCall (call call1:CallF)(c:Clm.Cl):Prop:=∀ (H:List AB) (F:AV) (is:Bool),(Clm.valid c=true→∀ G yb mb,Kp [] H G→Yd c yb mb G→call1 F [.ptr yb 0] G=some (.ret (.bool is),G,[])) →
  (Clm.valid c=false∧call (.fn (.func 45) [] []) [.agg (clampCs c),F] H=some (.pan (stopV 1),H,[]))∨(Clm.valid c=true∧is=false∧call (.fn (.func 45) [] []) [.agg (clampCs c),F] H=some (.pan (stopV 2),H,[])) ∨
  (Clm.valid c=true∧is=true∧∃ H' yb mb,call (.fn (.func 45) [] []) [.agg (clampCs c),F] H=some (.ret (.ptr yb 0),H',[])∧Kp [] H H'∧Yd c yb mb H'∧H.length≤yb∧H.length≤mb)
def ToldCall (call:CallF)(c:Clm.Cl):Prop:=∀ (H:List AB) (yb mb:Nat),Yd c yb mb H→∃ H' tc,(∀ j∈tc,j=mb)∧Kp tc H H'∧Yd c yb mb H'∧call (.fn (.func 47) [] []) [.ptr yb 0] H=some (if Clm.can c (Clm.every c) then .ret (.ptr yb 0) else .pan (stopV 10),H',tc)
def OneCall (call:CallF)(c:Clm.Cl):Prop:=∀ (H:List AB) (n:Int),(errOf c (decide (0≤n∧n<c.piles.length))≠0∧∃ H',call (.fn (.func 31) [] []) [.agg (clampCs c),.int .i64 n] H=some (.pan (stopV (errOf c (decide (0≤n∧n<c.piles.length)))),H',[])∧Kp [] H H') ∨
  (errOf c (decide (0≤n∧n<c.piles.length))=0∧∃ H' yb mb,call (.fn (.func 31) [] []) [.agg (clampCs c),.int .i64 n] H=some (.ret (.ptr yb 0),H',[])∧Kp [] H H'∧Yd c yb mb H'∧H.length≤yb∧H.length≤mb)
theorem zyt (C:Cfg)(call:CallF)(c:Clm.Cl)(hP:IsPileC call c)(H:List AB)(yb:Nat)(w:AV)(hy:H[yb]?=some (.cells (clampCs c++[w])))(n:Int)(b:Nat)(hb:H[b]?=some (.cells [.int .i64 n])):Does (ev C call H.length none af80.body { tm:=tmA af80.ntmps (zipI 0 [.ptr yb 0,.ptr b 0] []),df:=[],hp:=H,tc:=[] })
    (Ends C H.length af80.res fun v _hp tc=>v=.bool (decide (0≤n∧n<c.piles.length))∧tc=[]):=by
  have hp:=hP H yb w hy n
  obtain ⟨f0,f1,f2,f3,f4,f5⟩:=bk' hb
  generalize decide (0≤n∧n<(c.piles.length:Int))=bb at *
  clear hP hy
  unfold af80
  simp only[zipI]
  (repeat (first|(with_reducible apply zad;(focus ((conv=>lhs;simp[*,Nat.testBit_eq_decide_div_mod_eq])<;>exact rfl));simp only[addFl])|((with_reducible first|apply zai|apply zak|apply zah|apply zaf|apply zac|apply zaj|apply zag|apply zam|(apply zae;· simp[*,zaa])|(apply zab;· simp[*,zaa]));try simp only[Then,Ops])|simp only[Nat.reduceEqDiff,reduceIte,OutB,Then]))
  exact zao (.inl rfl) rfl (by simp) (by simp only[resL,resOf,zal];simp[*,resV]) ⟨rfl,rfl⟩
theorem zys (C:Cfg)(call call1:CallF)(c:Clm.Cl)(hO:OpenCall call call1 c)(hT:Clm.valid c=true→ToldCall call c)(H:List AB)(n:Int)(hF:Clm.valid c=true→∀ G yb mb,Kp [] (H++[.cells (clampCs c),.cells [.int .i64 n]]) G→Yd c yb mb G→call1 (.fn (.func 80) [] [.ptr (H.length+1) 0]) [.ptr yb 0] G=some (.ret (.bool (decide (0≤n∧n<c.piles.length))),G,[])):
    Does (ev C call H.length none af31.body { tm:=tmA af31.ntmps (zipI 0 [.agg (clampCs c),.int .i64 n] []),df:=[],hp:=H,tc:=[] })
      (Fin C H.length af31 fun x hp tc=>tc=[]∧Kp [] H hp∧((errOf c (decide (0≤n∧n<c.piles.length))≠0∧x=.pan (stopV (errOf c (decide (0≤n∧n<c.piles.length)))))∨(errOf c (decide (0≤n∧n<c.piles.length))=0∧∃ yb mb,x=.ret (.ptr yb 0)∧Yd c yb mb hp∧H.length≤yb∧H.length≤mb))):=by
  have ho:=hO (H++[.cells (clampCs c),.cells [.int .i64 n]]) (.fn (.func 80) [] [.ptr (H.length+1) 0]) _ hF
  generalize decide (0≤n∧n<(c.piles.length:Int))=is at *
  clear hF hO
  unfold errOf
  unfold af31
  rcases ho with ⟨h1,h2⟩|⟨h1,h2,h3⟩|⟨h1,h2,H1,yb,mb,h3,h4,h5,h6,h7⟩
  · rw[h1]
    clear hT h1
    simp only[zipI,clampCs,stopV] at *
    (repeat (first|(with_reducible apply zad;(focus ((conv=>lhs;simp[*,Nat.testBit_eq_decide_div_mod_eq])<;>exact rfl));simp only[addFl])|(with_reducible apply zay;(focus ((conv=>lhs;simp[*,Nat.testBit_eq_decide_div_mod_eq])<;>exact rfl));(try simp only[Ops,Then]);(try dsimp only))|((with_reducible first|apply zai|apply zak|apply zah|apply zaf|apply zac|apply zaj|apply zag|apply zam|(apply zae;· simp[*,zaa])|(apply zab;· simp[*,zaa]));try simp only[Then,Ops,reduceIte])|simp only[Nat.reduceEqDiff,reduceIte,OutB,Then]))
    exact zbq rfl (by simp) ⟨rfl,Kp.app _ _,.inl ⟨by simp,rfl⟩⟩
  · rw[h1,h2]
    clear hT h1 h2
    simp only[zipI,clampCs,stopV] at *
    (repeat (first|(with_reducible apply zad;(focus ((conv=>lhs;simp[*,Nat.testBit_eq_decide_div_mod_eq])<;>exact rfl));simp only[addFl])|(with_reducible apply zay;(focus ((conv=>lhs;simp[*,Nat.testBit_eq_decide_div_mod_eq])<;>exact rfl));(try simp only[Ops,Then]);(try dsimp only))|((with_reducible first|apply zai|apply zak|apply zah|apply zaf|apply zac|apply zaj|apply zag|apply zam|(apply zae;· simp[*,zaa])|(apply zab;· simp[*,zaa]));try simp only[Then,Ops,reduceIte])|simp only[Nat.reduceEqDiff,reduceIte,OutB,Then]))
    exact zbq rfl (by simp) ⟨rfl,Kp.app _ _,.inl ⟨by simp,rfl⟩⟩
  · obtain ⟨H2,tc,k1,k2,k3,k4⟩:=hT h1 H1 yb mb h5
    rw[h1,h2]
    have hl:=h4.len
    have hk4:Kp [] H H1:=h4.pre
    have hf:tc.filter (·<H.length)=[]:=List.filter_eq_nil_iff.2 fun j hj=>by have:=k1 j hj;simp at h7 ⊢;omega
    have hkp : Kp [] H H2 := ⟨by have := hk4.len; have := k2.len; omega, fun b hb hs => by
      rw[k2.get b (by have:=hk4.len;omega) (fun h=>by have:=k1 b h;simp at h7;omega)];exact hk4.get b hb hs⟩
    have HA:=hideP (And.intro hkp (And.intro k3 (And.intro h6 h7)))
    clear hT h1 h2 h4 h5 h6 h7 k1 k2 k3 hl hk4 hkp
    cases hcan:Clm.can c (Clm.every c) with
    |false=>
      rw[hcan] at k4
      simp only[zipI,clampCs,stopV,Bool.false_eq_true,if_false] at *
      (repeat (first|(with_reducible apply zad;(focus ((conv=>lhs;simp[*,Nat.testBit_eq_decide_div_mod_eq])<;>exact rfl));simp only[addFl])|(with_reducible apply zay;(focus ((conv=>lhs;simp[*,Nat.testBit_eq_decide_div_mod_eq])<;>exact rfl));(try simp only[Ops,Then]);(try dsimp only))|((with_reducible first|apply zai|apply zak|apply zah|apply zaf|apply zac|apply zaj|apply zag|apply zam|(apply zae;· simp[*,zaa])|(apply zab;· simp[*,zaa]));try simp only[Then,Ops,reduceIte])|simp only[Nat.reduceEqDiff,reduceIte,OutB,Then]))
      obtain ⟨hkp,k3,h6,h7⟩:=HA.out
      exact zbq rfl hkp.len ⟨rfl,hkp,.inl ⟨by simp,by simp⟩⟩
    |true=>
      rw[hcan] at k4
      simp only[zipI,clampCs,stopV,if_true] at *
      (repeat (first|(with_reducible apply zad;(focus ((conv=>lhs;simp[*,Nat.testBit_eq_decide_div_mod_eq])<;>exact rfl));simp only[addFl])|(with_reducible apply zay;(focus ((conv=>lhs;simp[*,Nat.testBit_eq_decide_div_mod_eq])<;>exact rfl));(try simp only[Ops,Then,OutB]);(try dsimp only))|((with_reducible first|apply zai|apply zak|apply zah|apply zaf|apply zac|apply zaj|apply zag|apply zam|(apply zae;· simp[*,zaa])|(apply zab;· simp[*,zaa]));try simp only[Then,Ops])|simp only[Nat.reduceEqDiff,reduceIte,OutB,Then]))
      obtain ⟨hkp,k3,h6,h7⟩:=HA.out
      simp at h6 h7
      exact ziu (v:=.ptr yb 0) (.inl rfl) rfl hkp.len (by simp only[resL,resOf,zal];simp[*,resV]) ⟨rfl,hkp,.inr ⟨by simp,yb,mb,rfl,k3,by omega,by omega⟩⟩
end K
end Ev
end Go.Proofs.YtimgnlellflciaaGreat
