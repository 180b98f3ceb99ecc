/- Own texts for this claim: Pj7, Pjf, Pj8, Gd1, Gd2, Gd3, Gd4, Gd5, Gd6, Gd7, Gd8, Gd9, Gd10, Gd11, SvNil, Owt, G12, Ovl, Gd12, Gd13, Gd14, Gd15. -/
import Derived.Test.YtgnhhialddlknaaGreatDoorGuardApartCardP3
import Derived.Test.YtgnhhialddlknaaGreatDoorGuardApartCardP8
import Derived.Test.YtgnhhialddlknaaGreatDoorGuardApartCardP7
import Derived.Test.YtgnhhialddlknaaGreatDoorGuardApartCardP6
set_option linter.all false
section
open Go Go.Sv Go.RowKit
namespace Go.Proofs.Tw
attribute [local irreducible] Wp FinQ resV Ent Pur Go.Sv.Fn Sat0
set_option maxRecDepth 100000
set_option maxHeartbeats 4000000
variable {G:Nat→Option (List Cell)} [Back G]
structure ObjF (s:List UInt8) (F:JWd→Nat→JV×Nat×Int) (R:JV×Nat×Int) (x:Nat×Nat×Nat×List (List UInt8)×Nat×List JV):Prop where
 p:x.2.1≤s.length
 m1:x.2.2.1=x.2.2.2.1.length
 m2:x.2.2.2.2.1=x.2.2.2.2.2.length
 mp1:x.2.2.1≤x.2.1
 mp2:x.2.2.2.2.1≤x.2.1
 r:objW s F x.1 (nxW s x.2.1).1 (nxW s x.2.1).2 x.2.2.2.1 x.2.2.2.2.2=R
 n:s.length<x.2.1+x.1
theorem po_loop (hE:HasErr G) (hp:HasPow G) (s:List UInt8) (hl:s.length≤1000000000) (d:Int) (F:JWd→Nat→JV×Nat×Int) (hA:∀ w q,q≤s.length→Adv s q (F w q).2.1)
  (ih:∀ w q,q≤s.length→FnB Tryz.prog G 138 [pjB s q] [.c (.ptr 0 0),.c (.cl (wdC w)),.c (.int .i64 d)] [.agg (encJ (F w q).1),.c (.int .i64 (F w q).2.2)] [(0,pjB s (F w q).2.1)])
  (p0 n p:Nat) (R:JV×Nat×Int) (hF:ObjF s F R (n,p,0,[],0,[])) :
  Wp Tryz.prog G Tryz.f187.ntmps (len [pjB s p0]) (loopAt Tryz.prog G Tryz.f187 5) (FinQ Tryz.prog Tryz.f187.results.toList (len [pjB s p0]) (fun r h=>r=[.agg (encJ R.1),.c (.int .i64 R.2.2)]∧h=[(0,pjB s R.2.1)]))
   ⟨[(0,.v (.c (.ptr 0 0))),(1,.v (.c (.int .i64 d))),(4,.v (.c (.ptr 1 0))),(6,.v (.c (.ptr 49 0))),(7,.v (.c (.cl (wdC (nxW s p).1))))],[(1,.box 53 [.int .i64 0,.bool false,.int .i64 0,.str [],.nilsl,.nilsl]),(49,.box 53 [.int .i64 6,.bool false,.int .i64 0,.str [],.nilsl,.nilsl]),(0,pjB s (nxW s p).2)],177⟩:=by
 refine Wp.loopK kR (fun (x:Nat×Nat×Nat×List (List UInt8)×Nat×List JV)=>⟨[(0,.v (.c (.ptr 0 0))),(1,.v (.c (.int .i64 d))),(4,.v (.c (.ptr 1 0))),(6,.v (.c (.ptr 49 0))),(7,.v (.c (.cl (wdC (nxW s x.2.1).1))))],[(1,.box 53 [.int .i64 0,.bool false,.int .i64 0,.str [],.nilsl,.nilsl]),(49,.box 53 [.int .i64 6,.bool false,.int .i64 0,.str [],.row 1 177 0 x.2.2.1,.row 6 193 0 x.2.2.2.2.1]),(0,pjB s (nxW s x.2.1).2),(177,.row 9 1 x.2.2.1 (strsF x.2.2.2.1)),(193,.row 53 6 x.2.2.2.2.1 (rowF encJ .nil x.2.2.2.2.2))],209⟩)
  (ObjF s F R) (fun x=>x.1) (n,p,0,[],0,[])
  (Ent.trans (Ent.empC (b:=49) (o:=4) (sz:=1) (e:=9) (e':=53) (cs:=[.int .i64 6,.bool false,.int .i64 0,.str [],.nilsl,.nilsl]) (f:=strsF []) dC (of_decide_eq_true kR) kR kR rfl) (Ent.trans (Ent.empC (b:=49) (o:=5) (sz:=6) (e:=53) (e':=53) (cs:=[.int .i64 6,.bool false,.int .i64 0,.str [],.row 1 177 0 0,.nilsl]) (f:=rowF encJ .nil []) dC (of_decide_eq_true kR) kR kR rfl) (Ent.of [] kR kR kR trivial))) hF ?_
 clear hF
 rintro ⟨n,p,a,ns,m,ks⟩ L ⟨hp1,ha1,hm,hap,hmp,hR,hn⟩ again
 simp only at hp1 ha1 hm hap hmp hR hn
 rcases n with _ | n
 ·omega
 have hq:=(nxW_adv s p hp1).2
 have hpa:=(nxW_adv s p hp1).1
 rw [objW] at hR
 generalize (nxW s p).2=q at *
 generalize (nxW s p).1=w at *
 have hkp:=kid_pub ks hm
 cases w with
 | no =>
  rw [if_neg (show ¬ isPh .no=true from fun h=>by cases h)] at hR
  subst hR
  have e1:=wd_out .no
  have e2:=wd_outI .no
  clear again
  refine zg [(5,{fm:=[(0,.c (wdC .no))]})] [true] [EqvI (.c (wdC JWd.no).cl) (.c (wdC JWd.no)),EqvD (.c (wdC JWd.no).cl) (.c (wdC JWd.no)),(!false)=true] ⟨fun _ _=>trivial,aS,rfl⟩ ?_
  refine Wp.ent' kR (Ent.pubC (b:=1) (o:=4) (e:=9) (e':=53) (cs:=[Cell.int .i64 (6:Int),Cell.bool false,Cell.int .i64 (0:Int),Cell.str [],Cell.row (1:Nat) (177:Nat) (0:Nat) a,Cell.row (6:Nat) (193:Nat) (0:Nat) m]) (sz:=(1:Nat)) (id:=177) (off:=(0:Nat)) (m:=a) (n:=a) (f:=strsF ns) (m':=(JV.mk (6:Int) false (0:Int) [] ns ks).names.length) (f':=fun (i j:Nat)=>nthD [Cell.str ((JV.mk (6:Int) false (0:Int) [] ns ks).names.getD i [])] j) kR kR kR oM aS (fun i _ j hj=>str_one _ i j hj) rfl) ?_
  refine Wp.ent' kR (Ent.pubC (b:=1) (o:=5) (e:=53) (e':=53) (cs:=[Cell.int .i64 (6:Int),Cell.bool false,Cell.int .i64 (0:Int),Cell.str [],Cell.sl (1:Nat) (JV.mk (6:Int) false (0:Int) [] ns ks).names.length fun (i j:Nat)=>nthD [Cell.str ((JV.mk (6:Int) false (0:Int) [] ns ks).names.getD i [])] j,Cell.row (6:Nat) (193:Nat) (0:Nat) m]) (sz:=(6:Nat)) (id:=193) (off:=(0:Nat)) (m:=m) (n:=m) (f:=fun (i j:Nat)=>nthD [Cell.int .i64 (ks.getD i JV.nil).kind,Cell.bool (ks.getD i JV.nil).b,Cell.int .i64 (ks.getD i JV.nil).n,Cell.str (ks.getD i JV.nil).s,encS (ks.getD i JV.nil).names,Cell.sl (6:Nat) (ks.getD i JV.nil).kids.length (kidC (ks.getD i JV.nil).kids)] j) (m':=(JV.mk (6:Int) false (0:Int) [] ns ks).kids.length) (f':=kidC (JV.mk (6:Int) false (0:Int) [] ns ks).kids) kR kR kR oM aS (kid_pub _ aS) rfl) ?_
  exact zb []
 | mk c =>
  rw [if_neg (show ¬ isPh (.mk c)=true from fun h=>by cases h)] at hR
  subst hR
  have e1:=wd_out (.mk c)
  have e2:=wd_outI (.mk c)
  clear again
  refine zg [(5,{fm:=[(0,.c (wdC (.mk c)))]})] [true] [EqvI (.c (wdC (JWd.mk c)).cl) (.c (wdC (JWd.mk c))),EqvD (.c (wdC (JWd.mk c)).cl) (.c (wdC (JWd.mk c))),(!false)=true] ⟨fun _ _=>trivial,aS,rfl⟩ ?_
  refine Wp.ent' kR (Ent.pubC (b:=1) (o:=4) (e:=9) (e':=53) (cs:=[Cell.int .i64 (6:Int),Cell.bool false,Cell.int .i64 (0:Int),Cell.str [],Cell.row (1:Nat) (177:Nat) (0:Nat) a,Cell.row (6:Nat) (193:Nat) (0:Nat) m]) (sz:=(1:Nat)) (id:=177) (off:=(0:Nat)) (m:=a) (n:=a) (f:=strsF ns) (m':=(JV.mk (6:Int) false (0:Int) [] ns ks).names.length) (f':=fun (i j:Nat)=>nthD [Cell.str ((JV.mk (6:Int) false (0:Int) [] ns ks).names.getD i [])] j) kR kR kR oM aS (fun i _ j hj=>str_one _ i j hj) rfl) ?_
  refine Wp.ent' kR (Ent.pubC (b:=1) (o:=5) (e:=53) (e':=53) (cs:=[Cell.int .i64 (6:Int),Cell.bool false,Cell.int .i64 (0:Int),Cell.str [],Cell.sl (1:Nat) (JV.mk (6:Int) false (0:Int) [] ns ks).names.length fun (i j:Nat)=>nthD [Cell.str ((JV.mk (6:Int) false (0:Int) [] ns ks).names.getD i [])] j,Cell.row (6:Nat) (193:Nat) (0:Nat) m]) (sz:=(6:Nat)) (id:=193) (off:=(0:Nat)) (m:=m) (n:=m) (f:=fun (i j:Nat)=>nthD [Cell.int .i64 (ks.getD i JV.nil).kind,Cell.bool (ks.getD i JV.nil).b,Cell.int .i64 (ks.getD i JV.nil).n,Cell.str (ks.getD i JV.nil).s,encS (ks.getD i JV.nil).names,Cell.sl (6:Nat) (ks.getD i JV.nil).kids.length (kidC (ks.getD i JV.nil).kids)] j) (m':=(JV.mk (6:Int) false (0:Int) [] ns ks).kids.length) (f':=kidC (JV.mk (6:Int) false (0:Int) [] ns ks).kids) kR kR kR oM aS (kid_pub _ aS) rfl) ?_
  exact zb []
 | nu n =>
  rw [if_neg (show ¬ isPh (.nu n)=true from fun h=>by cases h)] at hR
  subst hR
  have e1:=wd_out (.nu n)
  have e2:=wd_outI (.nu n)
  clear again
  refine zg [(5,{fm:=[(0,.c (wdC (.nu n)))]})] [true] [EqvI (.c (wdC (JWd.nu n)).cl) (.c (wdC (JWd.nu n))),EqvD (.c (wdC (JWd.nu n)).cl) (.c (wdC (JWd.nu n))),(!false)=true] ⟨fun _ _=>trivial,aS,rfl⟩ ?_
  refine Wp.ent' kR (Ent.pubC (b:=1) (o:=4) (e:=9) (e':=53) (cs:=[Cell.int .i64 (6:Int),Cell.bool false,Cell.int .i64 (0:Int),Cell.str [],Cell.row (1:Nat) (177:Nat) (0:Nat) a,Cell.row (6:Nat) (193:Nat) (0:Nat) m]) (sz:=(1:Nat)) (id:=177) (off:=(0:Nat)) (m:=a) (n:=a) (f:=strsF ns) (m':=(JV.mk (6:Int) false (0:Int) [] ns ks).names.length) (f':=fun (i j:Nat)=>nthD [Cell.str ((JV.mk (6:Int) false (0:Int) [] ns ks).names.getD i [])] j) kR kR kR oM aS (fun i _ j hj=>str_one _ i j hj) rfl) ?_
  refine Wp.ent' kR (Ent.pubC (b:=1) (o:=5) (e:=53) (e':=53) (cs:=[Cell.int .i64 (6:Int),Cell.bool false,Cell.int .i64 (0:Int),Cell.str [],Cell.sl (1:Nat) (JV.mk (6:Int) false (0:Int) [] ns ks).names.length fun (i j:Nat)=>nthD [Cell.str ((JV.mk (6:Int) false (0:Int) [] ns ks).names.getD i [])] j,Cell.row (6:Nat) (193:Nat) (0:Nat) m]) (sz:=(6:Nat)) (id:=193) (off:=(0:Nat)) (m:=m) (n:=m) (f:=fun (i j:Nat)=>nthD [Cell.int .i64 (ks.getD i JV.nil).kind,Cell.bool (ks.getD i JV.nil).b,Cell.int .i64 (ks.getD i JV.nil).n,Cell.str (ks.getD i JV.nil).s,encS (ks.getD i JV.nil).names,Cell.sl (6:Nat) (ks.getD i JV.nil).kids.length (kidC (ks.getD i JV.nil).kids)] j) (m':=(JV.mk (6:Int) false (0:Int) [] ns ks).kids.length) (f':=kidC (JV.mk (6:Int) false (0:Int) [] ns ks).kids) kR kR kR oM aS (kid_pub _ aS) rfl) ?_
  exact zb []
 | va v =>
  rw [if_neg (show ¬ isPh (.va v)=true from fun h=>by cases h)] at hR
  subst hR
  have e1:=wd_out (.va v)
  have e2:=wd_outI (.va v)
  clear again
  refine zg [(5,{fm:=[(0,.c (wdC (.va v)))]})] [true] [EqvI (.c (wdC (JWd.va v)).cl) (.c (wdC (JWd.va v))),EqvD (.c (wdC (JWd.va v)).cl) (.c (wdC (JWd.va v))),(!false)=true] ⟨aS,aS,rfl⟩ ?_
  refine Wp.ent' kR (Ent.pubC (b:=1) (o:=4) (e:=9) (e':=53) (cs:=[Cell.int .i64 (6:Int),Cell.bool false,Cell.int .i64 (0:Int),Cell.str [],Cell.row (1:Nat) (177:Nat) (0:Nat) a,Cell.row (6:Nat) (193:Nat) (0:Nat) m]) (sz:=(1:Nat)) (id:=177) (off:=(0:Nat)) (m:=a) (n:=a) (f:=strsF ns) (m':=(JV.mk (6:Int) false (0:Int) [] ns ks).names.length) (f':=fun (i j:Nat)=>nthD [Cell.str ((JV.mk (6:Int) false (0:Int) [] ns ks).names.getD i [])] j) kR kR kR oM aS (fun i _ j hj=>str_one _ i j hj) rfl) ?_
  refine Wp.ent' kR (Ent.pubC (b:=1) (o:=5) (e:=53) (e':=53) (cs:=[Cell.int .i64 (6:Int),Cell.bool false,Cell.int .i64 (0:Int),Cell.str [],Cell.sl (1:Nat) (JV.mk (6:Int) false (0:Int) [] ns ks).names.length fun (i j:Nat)=>nthD [Cell.str ((JV.mk (6:Int) false (0:Int) [] ns ks).names.getD i [])] j,Cell.row (6:Nat) (193:Nat) (0:Nat) m]) (sz:=(6:Nat)) (id:=193) (off:=(0:Nat)) (m:=m) (n:=m) (f:=fun (i j:Nat)=>nthD [Cell.int .i64 (ks.getD i JV.nil).kind,Cell.bool (ks.getD i JV.nil).b,Cell.int .i64 (ks.getD i JV.nil).n,Cell.str (ks.getD i JV.nil).s,encS (ks.getD i JV.nil).names,Cell.sl (6:Nat) (ks.getD i JV.nil).kids.length (kidC (ks.getD i JV.nil).kids)] j) (m':=(JV.mk (6:Int) false (0:Int) [] ns ks).kids.length) (f':=kidC (JV.mk (6:Int) false (0:Int) [] ns ks).kids) kR kR kR oM aS (kid_pub _ aS) rfl) ?_
  exact zb []
 | ph t =>
  rw [if_pos (show isPh (.ph t)=true from rfl)] at hR
  have hR:(if ns.contains t=true then (.mk 6 false 0 [] ns ks,q,6) else _)=R:=hR
  have e1:=wd_out (.ph t)
  have e2:=wd_outI (.ph t)
  have cc:=conS_ok (G:=G) ns a t ha1 oM
  have hin:isIn ns t=ns.contains t:=by unfold isIn;rw [List.contains_eq_any_beq];congr 1;funext x;exact Bool.beq_comm
  rw [hin] at cc
  cases hc:ns.contains t with
  | true =>
   rw [hc,if_pos rfl] at hR
   rw [hc] at cc
   subst hR
   clear again hc hin
   refine zg [(5,{fm:=[(0,.c (wdC (.ph t)))]}),(8,{cs:=[(3,lc [177] [.row 9 1 a (strsF ns)] [.c (.row 1 0 0 a),.c (.str t)] cc kR kR kR (show 0+a≤a from oM))]})] [false,true] [EqvI (.c (wdC (JWd.ph t)).cl) (.c (wdC (JWd.ph t))),EqvD (.c (wdC (JWd.ph t)).cl) (.c (wdC (JWd.ph t))),(!true)=false,true=true] ⟨fun _ _=>trivial,aS,rfl,rfl⟩ ?_
   refine Wp.ent' kR (Ent.pubC (b:=1) (o:=4) (e:=9) (e':=53) (cs:=[Cell.int .i64 (6:Int),Cell.bool false,Cell.int .i64 (0:Int),Cell.str [],Cell.row (1:Nat) (177:Nat) (0:Nat) a,Cell.row (6:Nat) (193:Nat) (0:Nat) m]) (sz:=(1:Nat)) (id:=177) (off:=(0:Nat)) (m:=a) (n:=a) (f:=strsF ns) (m':=(JV.mk (6:Int) false (0:Int) [] ns ks).names.length) (f':=fun (i j:Nat)=>nthD [Cell.str ((JV.mk (6:Int) false (0:Int) [] ns ks).names.getD i [])] j) kR kR kR oM aS (fun i _ j hj=>str_one _ i j hj) rfl) ?_
   refine Wp.ent' kR (Ent.pubC (b:=1) (o:=5) (e:=53) (e':=53) (cs:=[Cell.int .i64 (6:Int),Cell.bool false,Cell.int .i64 (0:Int),Cell.str [],Cell.sl (1:Nat) (JV.mk (6:Int) false (0:Int) [] ns ks).names.length fun (i j:Nat)=>nthD [Cell.str ((JV.mk (6:Int) false (0:Int) [] ns ks).names.getD i [])] j,Cell.row (6:Nat) (193:Nat) (0:Nat) m]) (sz:=(6:Nat)) (id:=193) (off:=(0:Nat)) (m:=m) (n:=m) (f:=fun (i j:Nat)=>nthD [Cell.int .i64 (ks.getD i JV.nil).kind,Cell.bool (ks.getD i JV.nil).b,Cell.int .i64 (ks.getD i JV.nil).n,Cell.str (ks.getD i JV.nil).s,encS (ks.getD i JV.nil).names,Cell.sl (6:Nat) (ks.getD i JV.nil).kids.length (kidC (ks.getD i JV.nil).kids)] j) (m':=(JV.mk (6:Int) false (0:Int) [] ns ks).kids.length) (f':=kidC (JV.mk (6:Int) false (0:Int) [] ns ks).kids) kR kR kR oM aS (kid_pub _ aS) rfl) ?_
   exact zb []
  | false =>
   rw [hc,if_neg dC] at hR
   rw [hc] at cc
   clear hin hc
   have c2:=pnext_ok hE hp s q hl hq
   have hx2:=nxW_adv s q hq
   have hcolon:=isMk_pos s q 58 rfl
   by_cases h58:isMk 58 (nxW s q).1=true
   ·rw [if_pos h58] at hR
    obtain ⟨hc1,hc2⟩:=hcolon h58
    have hsk:=skP_le s q
    have hw58:(nxW s q).1 = .mk 58:=by
     cases hw:(nxW s q).1 with
     | mk c=>rw [hw] at h58; rw [show c=58 from eq_of_beq h58]
     | no=>rw [hw] at h58; cases h58
     | ph t=>rw [hw] at h58; cases h58
     | nu n=>rw [hw] at h58; cases h58
     | va v=>rw [hw] at h58; cases h58
    rw [hw58] at c2
    have c2:=fnb_c c2 (wd_out _) (wd_outI _)
    clear h58 hcolon hw58
    generalize (nxW s q).2=q2 at *
    have c3:=pnext_ok hE hp s q2 hl hx2.2
    have hx3:=nxW_adv s q2 hx2.2
    have cv:=ih (nxW s q2).1 _ hx3.2
    have hav:=hA (nxW s q2).1 _ hx3.2
    generalize (nxW s q2).2=q3 at *
    generalize (nxW s q2).1=w3 at *
    generalize F w3 q3=y at *
    obtain ⟨v,q4,e⟩:=y
    simp only at hR cv hav
    by_cases h0:e=0
    ·subst h0
     rw [if_pos rfl] at hR
     have c5:=pnext_ok hE hp s q4 hl hav.2
     have c6:=ends_ok (G:=G) (nxW s q4).1 125 kR
     have hx5:=nxW_adv s q4 hav.2
     have hk44:=isMk_pos s q4 44 rfl
     have b1:BlkEqv (.row 9 1 (a+1) (catF a (strsF ns) (fun i j=>nthD [.str t] ((0+i)*1+j)))) (.row 9 1 (a+1) (strsF (ns++[t]))):=strs_app ns t ha1
     have b2:BlkEqv (.row 53 6 (m+1) (catF m (rowF encJ .nil ks) (fun i j=>nthD (encJ v) ((0+i)*6+j)))) (.row 53 6 (m+1) (rowF encJ .nil (ks++[v]))):=enc_app ks v hm
     have hm2:m+1=(ks++[v]).length:=by simp [hm]
     have ha2:a+1=(ns++[t]).length:=by simp [ha1]
     have hq34:q3≤q4:=hav.1
     have hq23:q2≤q3:=hx3.1
     have hqq:q≤q2:=hx2.1
     generalize hX:nxW s q4=X at *
     obtain ⟨w6,q6⟩:=X
     simp only at hR c5 c6 hx5 hk44
     have hkp2:=kid_pub (ks++[v]) hm2
     cases h125:isMk 125 w6 with
     | true =>
      rw [h125,if_pos rfl] at hR
      rw [h125] at c6
      subst hR
      clear again hk44 hkp
      refine zg [(5,{fm:=[(0,.c (wdC (.ph t)))]}),(15,{bs:=[(4,.row 9 1 (a+1) (strsF (ns++[t]))),(9,.row 53 6 (m+1) (rowF encJ .nil (ks++[v])))]}),(8,{cs:=[(3,lc [177] [.row 9 1 a (strsF ns)] [.c (.row 1 0 0 a),.c (.str t)] cc kR kR kR (show 0+a≤a from oM))]}),(10,{cs:=[(1,cb [0] c2)]}),(12,{cs:=[(2,cb [0] c3),(4,cb [0] cv)]}),(16,{cs:=[(1,cb [0] c5),(2,pc c6)]})] [false,false,false,false,false,true] [EqvI (.c (wdC (JWd.ph t)).cl) (.c (wdC (JWd.ph t))),EqvD (.c (wdC (JWd.ph t)).cl) (.c (wdC (JWd.ph t))),(!true)=false,false=false,(!(↑(UInt8.toNat (58:UInt8)):Int)==(58:Int))=false,((0:Int) != (0:Int))=false,(a+1)*16≤140737488355328,BlkEqv (.row 9 1 (a+1) (catF a (strsF ns) fun i j=>nthD [(fun (x:Nat) => .str t) 0] ((0+i)*1+j))) (.row 9 1 (a+1) (strsF (ns++[t]))),a≤a,0+1≤1,(m+1)*88≤140737488355328,BlkEqv (.row 53 6 (m+1) (catF m (fun i j=>nthD (encJ (ks.getD i .nil)) j) fun i j=>nthD [.int .i64 v.kind,.bool v.b,.int .i64 v.n,.str v.s,.sl 1 v.names.length fun i j=>nthD [.str (v.names.getD i [])] j,.sl 6 v.kids.length (kidC v.kids)] ((0+i)*6+j))) (.row 53 6 (m+1) (rowF encJ JV.nil (ks++[v]))),m≤m,0+1≤1,(!(true||isMk (44:UInt8) w6))=false,true=true] ⟨fun _ _=>trivial,aS,rfl,rfl,rfl,rfl,oM,aS,oM,oM,oM,aS,oM,oM,rfl,rfl⟩ ?_
      refine Wp.ent' kR (Ent.pubC (b:=1) (o:=4) (e:=9) (e':=53) (cs:=[Cell.int .i64 (6:Int),Cell.bool false,Cell.int .i64 (0:Int),Cell.str [],Cell.row (1:Nat) (753:Nat) (0:Nat) (a+(1:Nat)),Cell.row (6:Nat) (833:Nat) (0:Nat) (m+(1:Nat))]) (sz:=(1:Nat)) (id:=753) (off:=(0:Nat)) (m:=a+(1:Nat)) (n:=a+(1:Nat)) (f:=strsF (ns++[t])) (m':=(JV.mk (6:Int) false (0:Int) [] (ns++[phT (JWd.ph t)]) (ks++[v])).names.length) (f':=fun (i j:Nat)=>nthD [Cell.str ((JV.mk (6:Int) false (0:Int) [] (ns++[phT (JWd.ph t)]) (ks++[v])).names.getD i [])] j) kR kR kR oM aS (fun i _ j hj=>str_one _ i j hj) rfl) ?_
      refine Wp.ent' kR (Ent.pubC (b:=1) (o:=5) (e:=53) (e':=53) (cs:=[Cell.int .i64 (6:Int),Cell.bool false,Cell.int .i64 (0:Int),Cell.str [],Cell.sl (1:Nat) (JV.mk (6:Int) false (0:Int) [] (ns++[phT (JWd.ph t)]) (ks++[v])).names.length fun (i j:Nat)=>nthD [Cell.str ((JV.mk (6:Int) false (0:Int) [] (ns++[phT (JWd.ph t)]) (ks++[v])).names.getD i [])] j,Cell.row (6:Nat) (833:Nat) (0:Nat) (m+(1:Nat))]) (sz:=(6:Nat)) (id:=833) (off:=(0:Nat)) (m:=m+(1:Nat)) (n:=m+(1:Nat)) (f:=rowF encJ JV.nil (ks++[v])) (m':=(JV.mk (6:Int) false (0:Int) [] (ns++[phT (JWd.ph t)]) (ks++[v])).kids.length) (f':=kidC (JV.mk (6:Int) false (0:Int) [] (ns++[phT (JWd.ph t)]) (ks++[v])).kids) kR kR kR oM aS (kid_pub _ aS) rfl) ?_
      exact zb []
     | false =>
      rw [h125,if_neg dC] at hR
      rw [h125] at c6
      cases h44:isMk 44 w6 with
      | true =>
       rw [h44,if_pos rfl] at hR
       rw [h44] at c6
       obtain ⟨g1,g2⟩:=hk44 h44
       have hsk4:=skP_le s q4
       have c7:=pnext_ok hE hp s q6 hl hx5.2
       have hF:ObjF s F R (n,q6,a+1,ns++[t],m+1,ks++[v]):=⟨hx5.2,ha2,hm2,by show a+1≤q6;omega,by show m+1≤q6;omega,hR,by show s.length<q6+n;omega⟩
       clear hR hk44 hkp hkp2
       refine zg [(5,{fm:=[(0,.c (wdC (.ph t)))]}),(15,{bs:=[(4,.row 9 1 (a+1) (strsF (ns++[t]))),(9,.row 53 6 (m+1) (rowF encJ .nil (ks++[v])))]}),(8,{cs:=[(3,lc [177] [.row 9 1 a (strsF ns)] [.c (.row 1 0 0 a),.c (.str t)] cc kR kR kR (show 0+a≤a from oM))]}),(10,{cs:=[(1,cb [0] c2)]}),(12,{cs:=[(2,cb [0] c3),(4,cb [0] cv)]}),(16,{cs:=[(1,cb [0] c5),(2,pc c6)]}),(21,{cs:=[(1,cb [0] c7)]})] [false,false,false,false,false,false] [EqvI (.c (wdC (JWd.ph t)).cl) (.c (wdC (JWd.ph t))),EqvD (.c (wdC (JWd.ph t)).cl) (.c (wdC (JWd.ph t))),(!true)=false,false=false,(!(↑(UInt8.toNat (58:UInt8)):Int)==(58:Int))=false,((0:Int) != (0:Int))=false,(a+1)*16≤140737488355328,BlkEqv (.row 9 1 (a+1) (catF a (strsF ns) fun i j=>nthD [(fun (x:Nat) => .str t) 0] ((0+i)*1+j))) (.row 9 1 (a+1) (strsF (ns++[t]))),a≤a,0+1≤1,(m+1)*88≤140737488355328,BlkEqv (.row 53 6 (m+1) (catF m (fun i j=>nthD (encJ (ks.getD i .nil)) j) fun i j=>nthD [.int .i64 v.kind,.bool v.b,.int .i64 v.n,.str v.s,.sl 1 v.names.length fun i j=>nthD [.str (v.names.getD i [])] j,.sl 6 v.kids.length (kidC v.kids)] ((0+i)*6+j))) (.row 53 6 (m+1) (rowF encJ JV.nil (ks++[v]))),m≤m,0+1≤1,(!(false||true))=false,false=false] ⟨fun _ _=>trivial,aS,rfl,rfl,rfl,rfl,oM,aS,oM,oM,oM,aS,oM,oM,rfl,rfl⟩ ?_
       exact za [(177,753),(193,833)] (again _ (n,q6,a+1,ns++[t],m+1,ks++[v]) aS oM)
      | false =>
       rw [h44,if_neg dC] at hR
       rw [h44] at c6
       subst hR
       clear again hk44 hkp
       refine zg [(5,{fm:=[(0,.c (wdC (.ph t)))]}),(15,{bs:=[(4,.row 9 1 (a+1) (strsF (ns++[t]))),(9,.row 53 6 (m+1) (rowF encJ .nil (ks++[v])))]}),(8,{cs:=[(3,lc [177] [.row 9 1 a (strsF ns)] [.c (.row 1 0 0 a),.c (.str t)] cc kR kR kR (show 0+a≤a from oM))]}),(10,{cs:=[(1,cb [0] c2)]}),(12,{cs:=[(2,cb [0] c3),(4,cb [0] cv)]}),(16,{cs:=[(1,cb [0] c5),(2,pc c6)]})] [false,false,false,false,true] [EqvI (.c (wdC (JWd.ph t)).cl) (.c (wdC (JWd.ph t))),EqvD (.c (wdC (JWd.ph t)).cl) (.c (wdC (JWd.ph t))),(!true)=false,false=false,(!(↑(UInt8.toNat (58:UInt8)):Int)==(58:Int))=false,((0:Int) != (0:Int))=false,(a+1)*16≤140737488355328,BlkEqv (.row 9 1 (a+1) (catF a (strsF ns) fun i j=>nthD [(fun (x:Nat) => .str t) 0] ((0+i)*1+j))) (.row 9 1 (a+1) (strsF (ns++[t]))),a≤a,0+1≤1,(m+1)*88≤140737488355328,BlkEqv (.row 53 6 (m+1) (catF m (fun i j=>nthD (encJ (ks.getD i .nil)) j) fun i j=>nthD [.int .i64 v.kind,.bool v.b,.int .i64 v.n,.str v.s,.sl 1 v.names.length fun i j=>nthD [.str (v.names.getD i [])] j,.sl 6 v.kids.length (kidC v.kids)] ((0+i)*6+j))) (.row 53 6 (m+1) (rowF encJ JV.nil (ks++[v]))),m≤m,0+1≤1,(!(false||false))=true] ⟨fun _ _=>trivial,aS,rfl,rfl,rfl,rfl,oM,aS,oM,oM,oM,aS,oM,oM,rfl⟩ ?_
       refine Wp.ent' kR (Ent.pubC (b:=1) (o:=4) (e:=9) (e':=53) (cs:=[Cell.int .i64 (6:Int),Cell.bool false,Cell.int .i64 (0:Int),Cell.str [],Cell.row (1:Nat) (753:Nat) (0:Nat) (a+(1:Nat)),Cell.row (6:Nat) (833:Nat) (0:Nat) (m+(1:Nat))]) (sz:=(1:Nat)) (id:=753) (off:=(0:Nat)) (m:=a+(1:Nat)) (n:=a+(1:Nat)) (f:=strsF (ns++[t])) (m':=(JV.mk (6:Int) false (0:Int) [] (ns++[phT (JWd.ph t)]) (ks++[v])).names.length) (f':=fun (i j:Nat)=>nthD [Cell.str ((JV.mk (6:Int) false (0:Int) [] (ns++[phT (JWd.ph t)]) (ks++[v])).names.getD i [])] j) kR kR kR oM aS (fun i _ j hj=>str_one _ i j hj) rfl) ?_
       refine Wp.ent' kR (Ent.pubC (b:=1) (o:=5) (e:=53) (e':=53) (cs:=[Cell.int .i64 (6:Int),Cell.bool false,Cell.int .i64 (0:Int),Cell.str [],Cell.sl (1:Nat) (JV.mk (6:Int) false (0:Int) [] (ns++[phT (JWd.ph t)]) (ks++[v])).names.length fun (i j:Nat)=>nthD [Cell.str ((JV.mk (6:Int) false (0:Int) [] (ns++[phT (JWd.ph t)]) (ks++[v])).names.getD i [])] j,Cell.row (6:Nat) (833:Nat) (0:Nat) (m+(1:Nat))]) (sz:=(6:Nat)) (id:=833) (off:=(0:Nat)) (m:=m+(1:Nat)) (n:=m+(1:Nat)) (f:=rowF encJ JV.nil (ks++[v])) (m':=(JV.mk (6:Int) false (0:Int) [] (ns++[phT (JWd.ph t)]) (ks++[v])).kids.length) (f':=kidC (JV.mk (6:Int) false (0:Int) [] (ns++[phT (JWd.ph t)]) (ks++[v])).kids) kR kR kR oM aS (kid_pub _ aS) rfl) ?_
       exact zb []
    ·rw [if_neg h0] at hR
     subst hR
     have hne:(e != 0)=true:=by simpa using h0
     clear again h0
     refine zg [(5,{fm:=[(0,.c (wdC (.ph t)))]}),(8,{cs:=[(3,lc [177] [.row 9 1 a (strsF ns)] [.c (.row 1 0 0 a),.c (.str t)] cc kR kR kR (show 0+a≤a from oM))]}),(10,{cs:=[(1,cb [0] c2)]}),(12,{cs:=[(2,cb [0] c3),(4,cb [0] cv)]})] [false,false,false,true] [EqvI (.c (wdC (JWd.ph t)).cl) (.c (wdC (JWd.ph t))),EqvD (.c (wdC (JWd.ph t)).cl) (.c (wdC (JWd.ph t))),(!true)=false,false=false,(!(↑(UInt8.toNat (58:UInt8)):Int)==(58:Int))=false,(e != (0:Int))=true] ⟨fun _ _=>trivial,aS,rfl,rfl,rfl,(show (e != (0:Int))=true from aS)⟩ ?_
     refine Wp.ent' kR (Ent.pubC (b:=1) (o:=4) (e:=9) (e':=53) (cs:=[Cell.int .i64 (6:Int),Cell.bool false,Cell.int .i64 (0:Int),Cell.str [],Cell.row (1:Nat) (177:Nat) (0:Nat) a,Cell.row (6:Nat) (193:Nat) (0:Nat) m]) (sz:=(1:Nat)) (id:=177) (off:=(0:Nat)) (m:=a) (n:=a) (f:=strsF ns) (m':=(JV.mk (6:Int) false (0:Int) [] ns ks).names.length) (f':=fun (i j:Nat)=>nthD [Cell.str ((JV.mk (6:Int) false (0:Int) [] ns ks).names.getD i [])] j) kR kR kR oM aS (fun i _ j hj=>str_one _ i j hj) rfl) ?_
     refine Wp.ent' kR (Ent.pubC (b:=1) (o:=5) (e:=53) (e':=53) (cs:=[Cell.int .i64 (6:Int),Cell.bool false,Cell.int .i64 (0:Int),Cell.str [],Cell.sl (1:Nat) (JV.mk (6:Int) false (0:Int) [] ns ks).names.length fun (i j:Nat)=>nthD [Cell.str ((JV.mk (6:Int) false (0:Int) [] ns ks).names.getD i [])] j,Cell.row (6:Nat) (193:Nat) (0:Nat) m]) (sz:=(6:Nat)) (id:=193) (off:=(0:Nat)) (m:=m) (n:=m) (f:=fun (i j:Nat)=>nthD [Cell.int .i64 (ks.getD i JV.nil).kind,Cell.bool (ks.getD i JV.nil).b,Cell.int .i64 (ks.getD i JV.nil).n,Cell.str (ks.getD i JV.nil).s,encS (ks.getD i JV.nil).names,Cell.sl (6:Nat) (ks.getD i JV.nil).kids.length (kidC (ks.getD i JV.nil).kids)] j) (m':=(JV.mk (6:Int) false (0:Int) [] ns ks).kids.length) (f':=kidC (JV.mk (6:Int) false (0:Int) [] ns ks).kids) kR kR kR oM aS (kid_pub _ aS) rfl) ?_
     exact zb []
   ·rw [if_neg h58] at hR
    subst hR
    generalize (nxW s q).2=q2 at *
    generalize (nxW s q).1=w2 at *
    clear again hcolon
    cases w2 with
    | no =>
     have c2:=fnb_c c2 (wd_out _) (wd_outI _)
     refine zg [(5,{fm:=[(0,.c (wdC (.ph t)))]}),(8,{cs:=[(3,lc [177] [.row 9 1 a (strsF ns)] [.c (.row 1 0 0 a),.c (.str t)] cc kR kR kR (show 0+a≤a from oM))]}),(10,{cs:=[(1,cb [0] c2)]})] [false,false,true] [EqvI (.c (wdC (JWd.ph t)).cl) (.c (wdC (JWd.ph t))),EqvD (.c (wdC (JWd.ph t)).cl) (.c (wdC (JWd.ph t))),(!true)=false,false=false,(!false)=true] ⟨fun _ _=>trivial,aS,rfl,rfl,rfl⟩ ?_
     refine Wp.ent' kR (Ent.pubC (b:=1) (o:=4) (e:=9) (e':=53) (cs:=[Cell.int .i64 (6:Int),Cell.bool false,Cell.int .i64 (0:Int),Cell.str [],Cell.row (1:Nat) (177:Nat) (0:Nat) a,Cell.row (6:Nat) (193:Nat) (0:Nat) m]) (sz:=(1:Nat)) (id:=177) (off:=(0:Nat)) (m:=a) (n:=a) (f:=strsF ns) (m':=(JV.mk (6:Int) false (0:Int) [] ns ks).names.length) (f':=fun (i j:Nat)=>nthD [Cell.str ((JV.mk (6:Int) false (0:Int) [] ns ks).names.getD i [])] j) kR kR kR oM aS (fun i _ j hj=>str_one _ i j hj) rfl) ?_
     refine Wp.ent' kR (Ent.pubC (b:=1) (o:=5) (e:=53) (e':=53) (cs:=[Cell.int .i64 (6:Int),Cell.bool false,Cell.int .i64 (0:Int),Cell.str [],Cell.sl (1:Nat) (JV.mk (6:Int) false (0:Int) [] ns ks).names.length fun (i j:Nat)=>nthD [Cell.str ((JV.mk (6:Int) false (0:Int) [] ns ks).names.getD i [])] j,Cell.row (6:Nat) (193:Nat) (0:Nat) m]) (sz:=(6:Nat)) (id:=193) (off:=(0:Nat)) (m:=m) (n:=m) (f:=fun (i j:Nat)=>nthD [Cell.int .i64 (ks.getD i JV.nil).kind,Cell.bool (ks.getD i JV.nil).b,Cell.int .i64 (ks.getD i JV.nil).n,Cell.str (ks.getD i JV.nil).s,encS (ks.getD i JV.nil).names,Cell.sl (6:Nat) (ks.getD i JV.nil).kids.length (kidC (ks.getD i JV.nil).kids)] j) (m':=(JV.mk (6:Int) false (0:Int) [] ns ks).kids.length) (f':=kidC (JV.mk (6:Int) false (0:Int) [] ns ks).kids) kR kR kR oM aS (kid_pub _ aS) rfl) ?_
     exact zb []
    | mk c =>
     have hb2:((c.toNat:Int)==58)=false:=(ibeq c 58).trans (Bool.eq_false_iff.2 h58)
     have c2:=fnb_c c2 (wd_out _) (wd_outI _)
     clear h58
     refine zg [(5,{fm:=[(0,.c (wdC (.ph t)))]}),(8,{cs:=[(3,lc [177] [.row 9 1 a (strsF ns)] [.c (.row 1 0 0 a),.c (.str t)] cc kR kR kR (show 0+a≤a from oM))]}),(10,{cs:=[(1,cb [0] c2)]})] [false,false,true] [EqvI (.c (wdC (JWd.ph t)).cl) (.c (wdC (JWd.ph t))),EqvD (.c (wdC (JWd.ph t)).cl) (.c (wdC (JWd.ph t))),(!true)=false,false=false,(!(c.toNat:Int)==(58:Int))=true] ⟨fun _ _=>trivial,aS,rfl,rfl,(show (!(↑c.toNat:Int)==(58:Int))=true from (by simp_all<;>omega))⟩ ?_
     refine Wp.ent' kR (Ent.pubC (b:=1) (o:=4) (e:=9) (e':=53) (cs:=[Cell.int .i64 (6:Int),Cell.bool false,Cell.int .i64 (0:Int),Cell.str [],Cell.row (1:Nat) (177:Nat) (0:Nat) a,Cell.row (6:Nat) (193:Nat) (0:Nat) m]) (sz:=(1:Nat)) (id:=177) (off:=(0:Nat)) (m:=a) (n:=a) (f:=strsF ns) (m':=(JV.mk (6:Int) false (0:Int) [] ns ks).names.length) (f':=fun (i j:Nat)=>nthD [Cell.str ((JV.mk (6:Int) false (0:Int) [] ns ks).names.getD i [])] j) kR kR kR oM aS (fun i _ j hj=>str_one _ i j hj) rfl) ?_
     refine Wp.ent' kR (Ent.pubC (b:=1) (o:=5) (e:=53) (e':=53) (cs:=[Cell.int .i64 (6:Int),Cell.bool false,Cell.int .i64 (0:Int),Cell.str [],Cell.sl (1:Nat) (JV.mk (6:Int) false (0:Int) [] ns ks).names.length fun (i j:Nat)=>nthD [Cell.str ((JV.mk (6:Int) false (0:Int) [] ns ks).names.getD i [])] j,Cell.row (6:Nat) (193:Nat) (0:Nat) m]) (sz:=(6:Nat)) (id:=193) (off:=(0:Nat)) (m:=m) (n:=m) (f:=fun (i j:Nat)=>nthD [Cell.int .i64 (ks.getD i JV.nil).kind,Cell.bool (ks.getD i JV.nil).b,Cell.int .i64 (ks.getD i JV.nil).n,Cell.str (ks.getD i JV.nil).s,encS (ks.getD i JV.nil).names,Cell.sl (6:Nat) (ks.getD i JV.nil).kids.length (kidC (ks.getD i JV.nil).kids)] j) (m':=(JV.mk (6:Int) false (0:Int) [] ns ks).kids.length) (f':=kidC (JV.mk (6:Int) false (0:Int) [] ns ks).kids) kR kR kR oM aS (kid_pub _ aS) rfl) ?_
     exact zb []
    | ph t2 =>
     have c2:=fnb_c c2 (wd_out _) (wd_outI _)
     refine zg [(5,{fm:=[(0,.c (wdC (.ph t)))]}),(8,{cs:=[(3,lc [177] [.row 9 1 a (strsF ns)] [.c (.row 1 0 0 a),.c (.str t)] cc kR kR kR (show 0+a≤a from oM))]}),(10,{cs:=[(1,cb [0] c2)]})] [false,false,true] [EqvI (.c (wdC (JWd.ph t)).cl) (.c (wdC (JWd.ph t))),EqvD (.c (wdC (JWd.ph t)).cl) (.c (wdC (JWd.ph t))),(!true)=false,false=false,(!false)=true] ⟨fun _ _=>trivial,aS,rfl,rfl,rfl⟩ ?_
     refine Wp.ent' kR (Ent.pubC (b:=1) (o:=4) (e:=9) (e':=53) (cs:=[Cell.int .i64 (6:Int),Cell.bool false,Cell.int .i64 (0:Int),Cell.str [],Cell.row (1:Nat) (177:Nat) (0:Nat) a,Cell.row (6:Nat) (193:Nat) (0:Nat) m]) (sz:=(1:Nat)) (id:=177) (off:=(0:Nat)) (m:=a) (n:=a) (f:=strsF ns) (m':=(JV.mk (6:Int) false (0:Int) [] ns ks).names.length) (f':=fun (i j:Nat)=>nthD [Cell.str ((JV.mk (6:Int) false (0:Int) [] ns ks).names.getD i [])] j) kR kR kR oM aS (fun i _ j hj=>str_one _ i j hj) rfl) ?_
     refine Wp.ent' kR (Ent.pubC (b:=1) (o:=5) (e:=53) (e':=53) (cs:=[Cell.int .i64 (6:Int),Cell.bool false,Cell.int .i64 (0:Int),Cell.str [],Cell.sl (1:Nat) (JV.mk (6:Int) false (0:Int) [] ns ks).names.length fun (i j:Nat)=>nthD [Cell.str ((JV.mk (6:Int) false (0:Int) [] ns ks).names.getD i [])] j,Cell.row (6:Nat) (193:Nat) (0:Nat) m]) (sz:=(6:Nat)) (id:=193) (off:=(0:Nat)) (m:=m) (n:=m) (f:=fun (i j:Nat)=>nthD [Cell.int .i64 (ks.getD i JV.nil).kind,Cell.bool (ks.getD i JV.nil).b,Cell.int .i64 (ks.getD i JV.nil).n,Cell.str (ks.getD i JV.nil).s,encS (ks.getD i JV.nil).names,Cell.sl (6:Nat) (ks.getD i JV.nil).kids.length (kidC (ks.getD i JV.nil).kids)] j) (m':=(JV.mk (6:Int) false (0:Int) [] ns ks).kids.length) (f':=kidC (JV.mk (6:Int) false (0:Int) [] ns ks).kids) kR kR kR oM aS (kid_pub _ aS) rfl) ?_
     exact zb []
    | nu n2 =>
     have c2:=fnb_c c2 (wd_out _) (wd_outI _)
     refine zg [(5,{fm:=[(0,.c (wdC (.ph t)))]}),(8,{cs:=[(3,lc [177] [.row 9 1 a (strsF ns)] [.c (.row 1 0 0 a),.c (.str t)] cc kR kR kR (show 0+a≤a from oM))]}),(10,{cs:=[(1,cb [0] c2)]})] [false,false,true] [EqvI (.c (wdC (JWd.ph t)).cl) (.c (wdC (JWd.ph t))),EqvD (.c (wdC (JWd.ph t)).cl) (.c (wdC (JWd.ph t))),(!true)=false,false=false,(!false)=true] ⟨fun _ _=>trivial,aS,rfl,rfl,rfl⟩ ?_
     refine Wp.ent' kR (Ent.pubC (b:=1) (o:=4) (e:=9) (e':=53) (cs:=[Cell.int .i64 (6:Int),Cell.bool false,Cell.int .i64 (0:Int),Cell.str [],Cell.row (1:Nat) (177:Nat) (0:Nat) a,Cell.row (6:Nat) (193:Nat) (0:Nat) m]) (sz:=(1:Nat)) (id:=177) (off:=(0:Nat)) (m:=a) (n:=a) (f:=strsF ns) (m':=(JV.mk (6:Int) false (0:Int) [] ns ks).names.length) (f':=fun (i j:Nat)=>nthD [Cell.str ((JV.mk (6:Int) false (0:Int) [] ns ks).names.getD i [])] j) kR kR kR oM aS (fun i _ j hj=>str_one _ i j hj) rfl) ?_
     refine Wp.ent' kR (Ent.pubC (b:=1) (o:=5) (e:=53) (e':=53) (cs:=[Cell.int .i64 (6:Int),Cell.bool false,Cell.int .i64 (0:Int),Cell.str [],Cell.sl (1:Nat) (JV.mk (6:Int) false (0:Int) [] ns ks).names.length fun (i j:Nat)=>nthD [Cell.str ((JV.mk (6:Int) false (0:Int) [] ns ks).names.getD i [])] j,Cell.row (6:Nat) (193:Nat) (0:Nat) m]) (sz:=(6:Nat)) (id:=193) (off:=(0:Nat)) (m:=m) (n:=m) (f:=fun (i j:Nat)=>nthD [Cell.int .i64 (ks.getD i JV.nil).kind,Cell.bool (ks.getD i JV.nil).b,Cell.int .i64 (ks.getD i JV.nil).n,Cell.str (ks.getD i JV.nil).s,encS (ks.getD i JV.nil).names,Cell.sl (6:Nat) (ks.getD i JV.nil).kids.length (kidC (ks.getD i JV.nil).kids)] j) (m':=(JV.mk (6:Int) false (0:Int) [] ns ks).kids.length) (f':=kidC (JV.mk (6:Int) false (0:Int) [] ns ks).kids) kR kR kR oM aS (kid_pub _ aS) rfl) ?_
     exact zb []
    | va v2 =>
     have c2:=fnb_c c2 (wd_out _) (wd_outI _)
     refine zg [(5,{fm:=[(0,.c (wdC (.ph t)))]}),(8,{cs:=[(3,lc [177] [.row 9 1 a (strsF ns)] [.c (.row 1 0 0 a),.c (.str t)] cc kR kR kR (show 0+a≤a from oM))]}),(10,{cs:=[(1,cb [0] c2)]})] [false,false,true] [EqvI (.c (wdC (JWd.ph t)).cl) (.c (wdC (JWd.ph t))),EqvD (.c (wdC (JWd.ph t)).cl) (.c (wdC (JWd.ph t))),(!true)=false,false=false,(!false)=true] ⟨fun _ _=>trivial,aS,rfl,rfl,rfl⟩ ?_
     refine Wp.ent' kR (Ent.pubC (b:=1) (o:=4) (e:=9) (e':=53) (cs:=[Cell.int .i64 (6:Int),Cell.bool false,Cell.int .i64 (0:Int),Cell.str [],Cell.row (1:Nat) (177:Nat) (0:Nat) a,Cell.row (6:Nat) (193:Nat) (0:Nat) m]) (sz:=(1:Nat)) (id:=177) (off:=(0:Nat)) (m:=a) (n:=a) (f:=strsF ns) (m':=(JV.mk (6:Int) false (0:Int) [] ns ks).names.length) (f':=fun (i j:Nat)=>nthD [Cell.str ((JV.mk (6:Int) false (0:Int) [] ns ks).names.getD i [])] j) kR kR kR oM aS (fun i _ j hj=>str_one _ i j hj) rfl) ?_
     refine Wp.ent' kR (Ent.pubC (b:=1) (o:=5) (e:=53) (e':=53) (cs:=[Cell.int .i64 (6:Int),Cell.bool false,Cell.int .i64 (0:Int),Cell.str [],Cell.sl (1:Nat) (JV.mk (6:Int) false (0:Int) [] ns ks).names.length fun (i j:Nat)=>nthD [Cell.str ((JV.mk (6:Int) false (0:Int) [] ns ks).names.getD i [])] j,Cell.row (6:Nat) (193:Nat) (0:Nat) m]) (sz:=(6:Nat)) (id:=193) (off:=(0:Nat)) (m:=m) (n:=m) (f:=fun (i j:Nat)=>nthD [Cell.int .i64 (ks.getD i JV.nil).kind,Cell.bool (ks.getD i JV.nil).b,Cell.int .i64 (ks.getD i JV.nil).n,Cell.str (ks.getD i JV.nil).s,encS (ks.getD i JV.nil).names,Cell.sl (6:Nat) (ks.getD i JV.nil).kids.length (kidC (ks.getD i JV.nil).kids)] j) (m':=(JV.mk (6:Int) false (0:Int) [] ns ks).kids.length) (f':=kidC (JV.mk (6:Int) false (0:Int) [] ns ks).kids) kR kR kR oM aS (kid_pub _ aS) rfl) ?_
     exact zb []
end Go.Proofs.Tw
end
section

end
section
open Go Go.Sv Go.RowKit
namespace Go.Proofs.Tw
attribute [local irreducible] Wp FinQ resV Ent Pur Go.Sv.Fn Sat0
set_option maxRecDepth 100000
set_option maxHeartbeats 4000000
variable {G:Nat→Option (List Cell)} [Back G]
theorem pobject_ok (hE:HasErr G) (hp:HasPow G) (s:List UInt8) (hl:s.length≤1000000000) (d:Int) (F:JWd→Nat→JV×Nat×Int) (hA:∀ w q,q≤s.length→Adv s q (F w q).2.1)
  (ih:∀ w q,q≤s.length→FnB Tryz.prog G 138 [pjB s q] [.c (.ptr 0 0),.c (.cl (wdC w)),.c (.int .i64 d)] [.agg (encJ (F w q).1),.c (.int .i64 (F w q).2.2)] [(0,pjB s (F w q).2.1)]) (q:Nat) (hq:q≤s.length) :
  FnB Tryz.prog G 187 [pjB s q] [.c (.ptr 0 0),.c (.int .i64 d)] [.agg (encJ (objS s F q).1),.c (.int .i64 (objS s F q).2.2)] [(0,pjB s (objS s F q).2.1)]:=by
 refine zf Tryz.func187 ?_
 have c1:=pnext_ok hE hp s q hl hq
 have J:=po_loop hE hp s hl d F hA ih q (s.length+1) q (objW s F (s.length+1) (nxW s q).1 (nxW s q).2 [] []) ⟨hq,rfl,rfl,Nat.zero_le _,Nat.zero_le _,rfl,by show s.length<q+(s.length+1);omega⟩
 unfold objS
 generalize nxW s q=X at *
 obtain ⟨w,q'⟩:=X
 simp only at c1 J ⊢
 cases w with
 | no =>
  rw [if_neg (show ¬ isMk 125 .no=true from fun h=>by cases h)]
  have e1:=wd_out .no
  have e2:=wd_outI .no
  refine zg [(2,{cs:=[(1,cb [0] c1)]}),(3,{fm:=[(0,.c (wdC .no))]})] [false] [EqvI (.c (.cl (wdC .no))) (.c (wdC .no)),EqvD (.c (.cl (wdC .no))) (.c (wdC .no)),false=false] ⟨e2,e1,rfl⟩ ?_
  exact Wp.join J (Ent.of [] kR kR kR trivial)
 | mk c =>
  by_cases hc:c=125
  ·subst hc
   rw [if_pos (show isMk 125 (.mk 125)=true from rfl)]
   have e1:=wd_out (.mk 125)
   have e2:=wd_outI (.mk 125)
   have e4:=wJ_den 6 false 0 []
   clear J
   refine zg [(3,{fm:=[(0,.c (wdC (.mk 125)))]}),(4,{fm:=[(0,.agg (encJ (.mk 6 false 0 [] [] [])))]}),(2,{cs:=[(1,cb [0] c1)]})] [true] [EqvI (.c (wdC (JWd.mk (125:UInt8))).cl) (.c (wdC (JWd.mk (125:UInt8)))),EqvD (.c (wdC (JWd.mk (125:UInt8))).cl) (.c (wdC (JWd.mk (125:UInt8)))),((↑(UInt8.toNat (125:UInt8)):Int)==(125:Int))=true,EqvI (.agg [.int .i64 6,.bool false,.int .i64 0,.str [],.nilsl,.nilsl]) (.agg (encJ (JV.mk (6:Int) false (0:Int) [] [] []))),EqvD (.agg [.int .i64 6,.bool false,.int .i64 0,.str [],.nilsl,.nilsl]) (.agg (encJ (JV.mk (6:Int) false (0:Int) [] [] [])))] ⟨fun _ _=>trivial,aS,rfl,eqvI_flat _ _ kR,(show EqvD (.agg [.int .i64 (6:Int),.bool false,.int .i64 (0:Int),.str [],.nilsl,.nilsl]) (.agg (encJ (JV.mk (6:Int) false (0:Int) [] [] []))) from aS)⟩ ?_
   exact zb []
  ·have hb2:((c.toNat:Int)==125)=false:=(ibeq c 125).trans (beq_eq_false_iff_ne.2 hc)
   rw [if_neg (show ¬ isMk 125 (.mk c)=true from fun h=>hc (eq_of_beq h))]
   have e1:=wd_out (.mk c)
   have e2:=wd_outI (.mk c)
   refine zg [(2,{cs:=[(1,cb [0] c1)]}),(3,{fm:=[(0,.c (wdC (.mk c)))]})] [false] [EqvI (.c (.cl (wdC (.mk c)))) (.c (wdC (.mk c))),EqvD (.c (.cl (wdC (.mk c)))) (.c (wdC (.mk c))),((c.toNat:Int)==125)=false] ⟨e2,e1,hb2⟩ ?_
   exact Wp.join J (Ent.of [] kR kR kR trivial)
 | ph t =>
  rw [if_neg (show ¬ isMk 125 (.ph t)=true from fun h=>by cases h)]
  have e1:=wd_out (.ph t)
  have e2:=wd_outI (.ph t)
  refine zg [(2,{cs:=[(1,cb [0] c1)]}),(3,{fm:=[(0,.c (wdC (.ph t)))]})] [false] [EqvI (.c (.cl (wdC (.ph t)))) (.c (wdC (.ph t))),EqvD (.c (.cl (wdC (.ph t)))) (.c (wdC (.ph t))),false=false] ⟨e2,e1,rfl⟩ ?_
  exact Wp.join J (Ent.of [] kR kR kR trivial)
 | nu n =>
  rw [if_neg (show ¬ isMk 125 (.nu n)=true from fun h=>by cases h)]
  have e1:=wd_out (.nu n)
  have e2:=wd_outI (.nu n)
  refine zg [(2,{cs:=[(1,cb [0] c1)]}),(3,{fm:=[(0,.c (wdC (.nu n)))]})] [false] [EqvI (.c (.cl (wdC (.nu n)))) (.c (wdC (.nu n))),EqvD (.c (.cl (wdC (.nu n)))) (.c (wdC (.nu n))),false=false] ⟨e2,e1,rfl⟩ ?_
  exact Wp.join J (Ent.of [] kR kR kR trivial)
 | va v =>
  rw [if_neg (show ¬ isMk 125 (.va v)=true from fun h=>by cases h)]
  have e1:=wd_out (.va v)
  have e2:=wd_outI (.va v)
  refine zg [(2,{cs:=[(1,cb [0] c1)]}),(3,{fm:=[(0,.c (wdC (.va v)))]})] [false] [EqvI (.c (.cl (wdC (.va v)))) (.c (wdC (.va v))),EqvD (.c (.cl (wdC (.va v)))) (.c (wdC (.va v))),false=false] ⟨e2,e1,rfl⟩ ?_
  exact Wp.join J (Ent.of [] kR kR kR trivial)
theorem pvalue_ok (hE:HasErr G) (hp:HasPow G) (s:List UInt8) (hl:s.length≤1000000000):∀ (k:Nat),k≤8→∀ (w:JWd) (q:Nat),q≤s.length →
  FnB Tryz.prog G 138 [pjB s q] [.c (.ptr 0 0),.c (.cl (wdC w)),.c (.int .i64 (8-(k:Int)))] [.agg (encJ (valW s k w q).1),.c (.int .i64 (valW s k w q).2.2)] [(0,pjB s (valW s k w q).2.1)]:=by
 intro k
 induction k with
 | zero =>
  intro _ w q hq
  cases w with
  | no=>exact pv_no s q _
  | ph t=>exact pv_ph s q _ t
  | nu n=>exact pv_nu s q _ n
  | va v=>exact pv_va s q _ v
  | mk c =>
   rw [valW]
   by_cases h1:c=91
   ·rw [if_pos h1];exact pv_deep s q c (.inl h1)
   ·rw [if_neg h1]
    by_cases h2:c=123
    ·rw [if_pos h2];exact pv_deep s q c (.inr h2)
    ·rw [if_neg h2];exact pv_bad s q _ c h1 h2
 | succ k ih =>
  intro hk w q hq
  have ih:=ih oM
  have hd:8-((k+1:Nat):Int)+1=8-(k:Int):=by omega
  cases w with
  | no=>exact pv_no s q _
  | ph t=>exact pv_ph s q _ t
  | nu n=>exact pv_nu s q _ n
  | va v=>exact pv_va s q _ v
  | mk c =>
   rw [valW]
   by_cases h1:c=91
   ·rw [if_pos h1]
    subst h1
    refine pv_list s q _ oM oM _ _ _ ?_
    rw [hd]
    exact plist_ok hE hp s hl _ (valW s k) (valW_adv s k) ih q hq
   ·rw [if_neg h1]
    by_cases h2:c=123
    ·rw [if_pos h2]
     subst h2
     refine pv_obj s q _ oM oM _ _ _ ?_
     rw [hd]
     exact pobject_ok hE hp s hl _ (valW s k) (valW_adv s k) ih q hq
    ·rw [if_neg h2];exact pv_bad s q _ c h1 h2
theorem pparse_ok (hE:HasErr G) (hp:HasPow G) (s:List UInt8) (hl:s.length≤1000000000):Pur Tryz.prog G 82 [.c (.str s)] [.agg (encJ (parseJ s).1),.c (.int .i64 (parseJ s).2)]:=by
 refine zp Tryz.func82 ?_
 have c1:=pnext_ok hE hp s 0 hl (Nat.zero_le _)
 have hx:=nxW_adv s 0 (Nat.zero_le _)
 have cv:FnB Tryz.prog G 138 [pjB s (nxW s 0).2] [.c (.ptr 0 0),.c (.cl (wdC (nxW s 0).1)),.c (.int .i64 0)] [.agg (encJ (valW s 8 (nxW s 0).1 (nxW s 0).2).1),.c (.int .i64 (valW s 8 (nxW s 0).1 (nxW s 0).2).2.2)] [(0,pjB s (valW s 8 (nxW s 0).1 (nxW s 0).2).2.1)]:=pvalue_ok hE hp s hl 8 (Nat.le_refl _) (nxW s 0).1 (nxW s 0).2 hx.2
 have hv:=valW_adv s 8 (nxW s 0).1 (nxW s 0).2 hx.2
 rw [← parseW_is]
 unfold parseW
 generalize (nxW s 0).2=q at *
 generalize (nxW s 0).1=w at *
 generalize valW s 8 w q=y at *
 obtain ⟨v,p,e⟩:=y
 simp only at cv hv ⊢
 have cb1:=pblanks_ok (G:=G) s p hl hv.2
 have e0:=nilJ_den'
 by_cases h0:e=0
 ·subst h0
  rw [if_pos rfl]
  by_cases h1:skP s p<s.length
  ·rw [if_pos h1]
   have ht:decide ((skP s p:Int)<(s.length:Int))=true:=decide_eq_true oM
   generalize skP s p=Q at *
   refine zg [(8,{fm:=[(0,.agg (encJ .nil))]}),(2,{cs:=[(2,cb [64] c1),(3,cb [64] cv)]}),(4,{cs:=[(1,cb [64] cb1)]})] [true,true,true] [((0:Int)==(0:Int))=true,decide ((Q:Int)<(s.length:Int))=true,((5:Int) != (0:Int))=true,EqvI (.agg [.int .i64 0,.bool false,.int .i64 0,.str [],.nilsl,.nilsl]) (.agg (encJ JV.nil)),EqvD (.agg [.int .i64 0,.bool false,.int .i64 0,.str [],.nilsl,.nilsl]) (.agg (encJ JV.nil))] ⟨rfl,aS,rfl,eqvI_flat _ _ kR,(show EqvD (.agg [.int .i64 (0:Int),.bool false,.int .i64 (0:Int),.str [],.nilsl,.nilsl]) (.agg (encJ JV.nil)) from aS)⟩ ?_
   exact zr
  ·rw [if_neg h1]
   have ht:decide ((skP s p:Int)<(s.length:Int))=false:=decide_eq_false oM
   generalize skP s p=Q at *
   refine zg [(2,{cs:=[(2,cb [64] c1),(3,cb [64] cv)]}),(4,{cs:=[(1,cb [64] cb1)]})] [true,false,false] [((0:Int)==(0:Int))=true,decide ((Q:Int)<(s.length:Int))=false,((0:Int) != (0:Int))=false] ⟨rfl,aS,rfl⟩ ?_
   exact zr
 ·rw [if_neg h0]
  have h0':(e != 0)=true:=by simpa using h0
  have h0'':(e==0)=false:=by simpa using h0
  refine zg [(8,{fm:=[(0,.agg (encJ .nil))]}),(2,{cs:=[(2,cb [64] c1),(3,cb [64] cv)]})] [false,true] [(e==(0:Int))=false,(e != (0:Int))=true,EqvI (.agg [.int .i64 0,.bool false,.int .i64 0,.str [],.nilsl,.nilsl]) (.agg (encJ JV.nil)),EqvD (.agg [.int .i64 0,.bool false,.int .i64 0,.str [],.nilsl,.nilsl]) (.agg (encJ JV.nil))] ⟨aS,aS,eqvI_flat _ _ kR,(show EqvD (.agg [.int .i64 (0:Int),.bool false,.int .i64 (0:Int),.str [],.nilsl,.nilsl]) (.agg (encJ JV.nil)) from aS)⟩ ?_
  exact zr
end Go.Proofs.Tw
end
section
open Go Go.Sv Go.RowKit
namespace Go.Proofs.Tw
attribute [local irreducible] Wp FinQ resV Ent Pur Go.Sv.Fn Sat0
set_option maxRecDepth 100000
set_option maxHeartbeats 4000000
def Gz (m:Int) (e1 e2:Cell):Nat→Option (List Cell)
 | 3=>some [e1]
 | 4=>some [e2]
 | n=>Gq m n
instance back_Gz (m:Int) (e1 e2:Cell):Back (Gz m e1 e2):=⟨fun h=>by cases h⟩
theorem Gq_Gz (m:Int) (e1 e2:Cell):∀ g cs,Gq m g=some cs→Gz m e1 e2 g=some cs:=by
 intro g cs h
 unfold Gz
 split
 ·exact absurd h (by rw [show Gq m 3=none from rfl];simp)
 ·exact absurd h (by rw [show Gq m 4=none from rfl];simp)
 ·exact h
def GqIn (m:Int) (G:Nat→Option (List Cell)):Prop:=∀ g cs,Gq m g=some cs→G g=some cs
theorem GqIn.len {m:Int} {G:Nat→Option (List Cell)} (h:GqIn m G):HasLen G:=⟨m,h _ _ rfl⟩
theorem GqIn.pow {m:Int} {G:Nat→Option (List Cell)} (h:GqIn m G):HasPow G:=h _ _ rfl
variable {m:Int} {g1 g2:Cell}
structure AsT where (front asker back:Int)
def AsT.nil:AsT:=⟨0,0,0⟩
def encAs (a:AsT):List Cell:=[.int .i64 a.front,.int .i64 a.asker,.int .i64 a.back]
def asS (l:List AsT):Cell := .sl 3 l.length (rowF encAs .nil l)
def asB (l:List AsT):Blk := .row 79 3 l.length (rowF encAs .nil l)
structure GT where (key sec:Int) (asks:List AsT)
def encGt (g:GT):List Cell:=[.int .i64 g.key,.int .i64 g.sec,asS g.asks]
def gtB (key sec:Int) (l:Cell) (s:SoT) (sent:Cell):Blk := .box 90 [.int .i64 key,.int .i64 sec,l,.int .i64 s.n,.int .i64 s.conn,.int .i64 s.now,sent]
theorem ownAs_ok {G:Nat→Option (List Cell)} [Back G] (l:List AsT) (hl:l.length≤1000000000):FnB Tryz.prog G 74 [] [.c (asS l)] [.c (.row 3 0 0 l.length)] [(0,asB l)]:=by
 refine zf Tryz.func74 ?_
 have e1:BlkEqv (.row 79 3 l.length (cpyF 0 l.length (fun _ j=>nthD [.int .i64 0,.int .i64 0,.int .i64 0] j) (fun i j=>nthD (encAs (l.getD i .nil)) j))) (.row 79 3 l.length (rowF encAs .nil l)):=by
  refine BlkEqv.row_ext rfl fun i hi j hj => ?_
  unfold cpyF
  rw [if_neg oM,if_pos oM,Nat.sub_zero]
  rfl
 refine zg [(2,{bs:=[(2,.row 79 3 l.length (rowF encAs .nil l))]})] [] [(0:Int)≤(l.length:Int),(l.length:Int)≤(l.length:Int),(l.length:Int)*(↑(24:Nat):Int)≤(140737488355328:Int),l.length≤l.length,0+l.length≤l.length,BlkEqv (.row 79 3 l.length fun i j=>if i<0 then nthD [.int .i64 0,.int .i64 0,.int .i64 0] j else if i<0+l.length then rowF encAs AsT.nil l (i-0) j else nthD [.int .i64 0,.int .i64 0,.int .i64 0] j) (.row 79 3 l.length (rowF encAs AsT.nil l))] ⟨oM,oM,oM,oM,oM,(show BlkEqv (.row 79 (3:Nat) l.length fun i j=>if i<(0:Nat) then nthD [.int .i64 (0:Int),.int .i64 (0:Int),.int .i64 (0:Int)] j else if i<(0:Nat)+l.length then rowF encAs AsT.nil l (i-(0:Nat)) j else nthD [.int .i64 (0:Int),.int .i64 (0:Int),.int .i64 (0:Int)] j) (.row 79 (3:Nat) l.length (rowF encAs AsT.nil l)) from aS)⟩ ?_
 exact zb [48]
theorem opens_ok {G:Nat→Option (List Cell)} [Back G] (g:GT) (s:SoT) (hl:g.asks.length≤1000000000) :
  FnB Tryz.prog G 38 [] [.agg (encGt g),.agg (encSo s)] [.c (.ptr 0 0)] [(0,gtB g.key g.sec (.row 3 1 0 g.asks.length) s .nilsl),(1,asB g.asks)]:=by
 refine zf Tryz.func38 ?_
 have c:=ownAs_ok (G:=G) g.asks hl
 refine z0 [(1,{cs:=[(2,cb [] c)]})] [] ?_
 exact zb [176,80]
theorem answersG_ok {G:Nat→Option (List Cell)} [Back G] (key sec:Int) (m n:Nat) (f:Nat→Nat→Cell) (s:SoT) (conn who:Int) (r:RT) (d:List UInt8) (c:Pur Tryz.prog G 130 [.agg (encT r)] [.c (.str d)]) :
  FnB Tryz.prog G 80 [gtB key sec (.row 3 1 0 m) s .nilsl,.row 79 3 n f] [.c (.ptr 0 0),.c (.int .i64 conn),.c (.int .i64 who),.agg (encT r)] []
   [(0,gtB key sec (.row 3 1 0 m) s (.row 5 2 0 1)),(1,.row 79 3 n f),(2,mgB [⟨conn,who,[114,115],true,d⟩])]:=by
 refine zf Tryz.func80 ?_
 have c2:=poolBack_ok (G:=G) conn who [114,115] d
 have e1:BlkEqv (.row 33 5 1 (catF 0 (fun _ _ => .nilif) (fun i j=>nthD (encMg ⟨conn,who,[114,115],true,d⟩) ((0+i)*5+j)))) (.row 33 5 1 (rowF encMg .nil [⟨conn,who,[114,115],true,d⟩])):=by
  refine BlkEqv.row_ext rfl fun i hi j hj => ?_
  obtain rfl:i=0:=by omega
  unfold catF
  rw [if_neg oM]
  simp [rowF]
 refine zg [(1,{cs:=[(8,pc c),(9,pc c2)],bs:=[(11,.row 33 5 1 (rowF encMg .nil [⟨conn,who,[114,115],true,d⟩]))]})] [] [56≤140737488355328,BlkEqv (.row 33 (5:Nat) (1:Nat) (catF (0:Nat) (fun (x x_1:Nat) => .nilif) fun i j=>nthD (encMg (MgT.mk conn who [(114:UInt8),115] true d)) (((0:Nat)+i)*(5:Nat)+j))) (.row 33 (5:Nat) (1:Nat) (rowF encMg MgT.nil [MgT.mk conn who [(114:UInt8),115] true d])),0+1≤1] ⟨oM,aS,(show (0:Nat)+(1:Nat)≤(1:Nat) from oM)⟩ ?_
 exact zb [194]
theorem answers_ok {G:Nat→Option (List Cell)} [Back G] (key sec:Int) (l:List AsT) (n:Nat) (hn:n=l.length) (s:SoT) (conn who:Int) (r:RT) (d:List UInt8) (c:Pur Tryz.prog G 130 [.agg (encT r)] [.c (.str d)]) :
  FnB Tryz.prog G 80 [gtB key sec (.row 3 1 0 n) s .nilsl,.row 79 3 n (rowF encAs .nil l)] [.c (.ptr 0 0),.c (.int .i64 conn),.c (.int .i64 who),.agg (encT r)] []
   [(0,gtB key sec (.row 3 1 0 n) s (.row 5 2 0 1)),(1,.row 79 3 n (rowF encAs .nil l)),(2,mgB [⟨conn,who,[114,115],true,d⟩])]:=answersG_ok key sec n n (rowF encAs .nil l) s conn who r d c
end Go.Proofs.Tw
end
section
open Go Go.Sv Go.RowKit
namespace Go.Proofs.Tw
attribute [local irreducible] Wp FinQ resV Ent Pur Go.Sv.Fn Sat0
set_option maxRecDepth 100000
set_option maxHeartbeats 4000000
variable {m:Int} {g1 g2:Cell}
def erI (e:Int):Cell := .ifc 60 none (fun _ => .int .i64 e)
def msX (x:MgT):Blk := .box 33 (encMg x)
theorem askedD_ok {G:Nat→Option (List Cell)} [Back G] (key sec:Int) (l:List AsT) (n:Nat) (hn:n=l.length) (s:SoT) (x:MgT) (e:Int) (d:List UInt8)
  (cf:Pur Tryz.prog G 78 [.c (.int .i64 e)] [.agg (encT (failT e))]) (c:Pur Tryz.prog G 130 [.agg (encT (failT e))] [.c (.str d)]) :
  FnD Tryz.prog G 87 [gtB key sec (.row 3 1 0 n) s .nilsl,.row 79 3 n (rowF encAs .nil l),.box 86 [.ptr 0 0],msX x,.box 141 [erI e]] [.c (.ptr 4 0),.c (.ptr 2 0),.c (.ptr 3 0)]
   (fun r h=>r=[]∧h=[(0,gtB key sec (.row 3 1 0 n) s (.row 5 5 0 1)),(1,.row 79 3 n (rowF encAs .nil l)),(5,mgB [⟨x.conn,x.who,[114,115],true,d⟩])]):=by
 refine zfd Tryz.func87 ?_ (hr:=trivial)
 have c2:=answers_ok (G:=G) key sec l n hn s x.conn x.who (failT e) d c
 refine zg [(2,{cs:=[(6,pc cf),(7,cb [0,1] c2)]})] [true] [true=true] rfl ?_
 exact zb [245]
def authV (r:QT):List UInt8:=(fGet r.head [97,117,116,104,111,114,105,122,97,116,105,111,110]).getD []
def bearB (r:QT):Bool:=bif !(Lib.hasPrefix (authV r) [66,101,97,114,101,114,32]) then true else !wdT (Lib.trimPrefix (authV r) [66,101,97,114,101,114,32])
def shE (data:List UInt8):Int :=
 if (parseQ data).2=4 then 4 else if (parseQ data).2≠0∨(splitU (parseQ data).1.target).2.2≠0 then 10 else if (parseQ data).1.method≠[71,69,84] then 17
 else if (splitU (parseQ data).1.target).1≠[47,109,101] then 18 else if bearB (parseQ data).1=true then 9 else 0
def shT (data:List UInt8):List UInt8:=Lib.trimPrefix (authV (parseQ data).1) [66,101,97,114,101,114,32]
structure FitQd (data:List UInt8):Prop where
 t:(parseQ data).1.target.length<1000000000
 h:(parseQ data).1.head.length<1000000000
 a:(authV (parseQ data).1).length<1000000000
theorem shown_no {G:Nat→Option (List Cell)} [Back G] (hq:GqIn m G) (data:List UInt8) (hl:data.length<1000000000) (hf:FitQd data) (h:shE data≠0):FnB Tryz.prog G 88 [] [.c (.str data)] [.c (.str []),.c (erI (shE data))] []:=by
 refine zf Tryz.func88 ?_
 have c1:=parseQ_ok (G:=G) hq.len data hl
 have c2:=Pur.grow hq (usplit_ok (m:=m) (parseQ data).1.target hf.t)
 have c3:=hget_ok (G:=G) (parseQ data).1.head [97,117,116,104,111,114,105,122,97,116,105,111,110] (by have:=hf.h;omega)
 have c4:=lib_CutPrefix (G:=G) (authV (parseQ data).1) [66,101,97,114,101,114,32]
 have c5:=word_ok (G:=G) (Lib.trimPrefix (authV (parseQ data).1) [66,101,97,114,101,114,32]) (by
  have:=hf.a
  unfold Lib.trimPrefix
  split
  ·rw [List.length_drop];omega
  ·omega)
 unfold shE at h ⊢
 unfold bearB at h ⊢
 have hav:(fGet (parseQ data).1.head [97,117,116,104,111,114,105,122,97,116,105,111,110]).getD []=authV (parseQ data).1:=rfl
 rw [hav] at c3
 clear hav hf
 generalize authV (parseQ data).1=A at *
 generalize (fGet (parseQ data).1.head [97,117,116,104,111,114,105,122,97,116,105,111,110]).isSome=ia at *
 generalize hY:splitU (parseQ data).1.target=Y at *
 obtain ⟨pa,qu,f⟩:=Y
 clear hY
 generalize hX:parseQ data=X at *
 obtain ⟨r,e⟩:=X
 simp only at h c1 c2 c3 ⊢
 by_cases h1:e=4
 ·subst h1
  rw [if_pos rfl]
  refine zg [(1,{cs:=[(1,pc c1)]})] [true] [((4:Int)==(4:Int))=true] rfl ?_
  exact zb []
 rw [if_neg h1] at h ⊢
 have k1:(e==4)=false:=by simpa using h1
 by_cases h2:e≠0∨f≠0
 ·rw [if_pos h2]
  have k2:(bif e != 0 then true else f != 0)=true:=by
   rcases h2 with h2 | h2
   ·rw [show (e != 0)=true by simpa using h2];rfl
   ·rw [show (f != 0)=true by simpa using h2];cases e != 0<;>rfl
  clear h2
  refine zg [(1,{cs:=[(1,pc c1)]}),(4,{cs:=[(2,pc c2)]})] [false,true] [(e==(4:Int))=false,(bif e != (0:Int) then true else f != (0:Int))=true] ⟨aS,(show (bif e != (0:Int) then true else f != (0:Int))=true from aS)⟩ ?_
  exact zb []
 rw [if_neg h2] at h ⊢
 have k2:(bif e != 0 then true else f != 0)=false:=by
  have h3:e=0:=by
   by_cases h3:e=0
   ·exact h3
   ·exact absurd (.inl h3) h2
  have h4:f=0:=by
   by_cases h4:f=0
   ·exact h4
   ·exact absurd (.inr h4) h2
  rw [h3,h4];rfl
 clear h2
 by_cases h3:r.method≠[71,69,84]
 ·rw [if_pos h3]
  have k3:(!(r.method==[71,69,84]))=true:=by rw [beq_eq_false_iff_ne.2 h3];rfl
  clear h3
  refine zg [(1,{cs:=[(1,pc c1)]}),(4,{cs:=[(2,pc c2)]})] [false,false,true] [(e==(4:Int))=false,(bif e != (0:Int) then true else f != (0:Int))=false,(!r.method==[(71:UInt8),69,84])=true] ⟨aS,aS,(show (!r.method==[(71:UInt8),69,84])=true from aS)⟩ ?_
  exact zb []
 rw [if_neg h3] at h ⊢
 have k3:(!(r.method==[71,69,84]))=false:=by
  have h3:r.method=[71,69,84]:=Classical.not_not.1 h3
  rw [h3];rfl
 clear h3
 by_cases h4:pa≠[47,109,101]
 ·rw [if_pos h4]
  have k4:(!(pa==[47,109,101]))=true:=by rw [beq_eq_false_iff_ne.2 h4];rfl
  clear h4
  refine zg [(1,{cs:=[(1,pc c1)]}),(4,{cs:=[(2,pc c2)]})] [false,false,false,true] [(e==(4:Int))=false,(bif e != (0:Int) then true else f != (0:Int))=false,(!r.method==[(71:UInt8),69,84])=false,(!pa==[(47:UInt8),109,101])=true] ⟨aS,aS,aS,(show (!pa==[(47:UInt8),109,101])=true from aS)⟩ ?_
  exact zb []
 rw [if_neg h4] at h ⊢
 have k4:(!(pa==[47,109,101]))=false:=by
  have h4:pa=[47,109,101]:=Classical.not_not.1 h4
  rw [h4];rfl
 clear h4
 cases h5:(bif !(Lib.hasPrefix A [66,101,97,114,101,114,32]) then true else !wdT (Lib.trimPrefix A [66,101,97,114,101,114,32])) with
 | true =>
  rw [if_pos rfl]
  clear h
  generalize wdT (Lib.trimPrefix A [66,101,97,114,101,114,32])=W at *
  generalize Lib.trimPrefix A [66,101,97,114,101,114,32]=T at *
  generalize Lib.hasPrefix A [66,101,97,114,101,114,32]=B at *
  refine zg [(1,{cs:=[(1,pc c1)]}),(4,{cs:=[(2,pc c2)]}),(11,{cs:=[(2,pc c3)]}),(12,{cs:=[(1,pc c4)]}),(13,{cs:=[(4,pc c5)]})] [false,false,false,false,true] [(e==(4:Int))=false,(bif e != (0:Int) then true else f != (0:Int))=false,(!r.method==[(71:UInt8),69,84])=false,(!pa==[(47:UInt8),109,101])=false,(bif !B then true else !W)=true] ⟨aS,aS,aS,aS,(show (bif !B then true else !W)=true from aS)⟩ ?_
  exact zb []
 | false =>
  rw [h5,if_neg dC] at h
  exact (h rfl).elim
theorem shown_yes {G:Nat→Option (List Cell)} [Back G] (hq:GqIn m G) (data:List UInt8) (hl:data.length<1000000000) (hf:FitQd data) (h:shE data=0):FnB Tryz.prog G 88 [] [.c (.str data)] [.c (.str (shT data)),.c .nilif] []:=by
 refine zf Tryz.func88 ?_
 have c1:=parseQ_ok (G:=G) hq.len data hl
 have c2:=Pur.grow hq (usplit_ok (m:=m) (parseQ data).1.target hf.t)
 have c3:=hget_ok (G:=G) (parseQ data).1.head [97,117,116,104,111,114,105,122,97,116,105,111,110] (by have:=hf.h;omega)
 have c4:=lib_CutPrefix (G:=G) (authV (parseQ data).1) [66,101,97,114,101,114,32]
 have c5:=word_ok (G:=G) (Lib.trimPrefix (authV (parseQ data).1) [66,101,97,114,101,114,32]) (by
  have:=hf.a
  unfold Lib.trimPrefix
  split
  ·rw [List.length_drop];omega
  ·omega)
 unfold shE at h
 unfold bearB at h
 unfold shT
 have hav:(fGet (parseQ data).1.head [97,117,116,104,111,114,105,122,97,116,105,111,110]).getD []=authV (parseQ data).1:=rfl
 rw [hav] at c3
 clear hav hf
 generalize authV (parseQ data).1=A at *
 generalize (fGet (parseQ data).1.head [97,117,116,104,111,114,105,122,97,116,105,111,110]).isSome=ia at *
 generalize hY:splitU (parseQ data).1.target=Y at *
 obtain ⟨pa,qu,f⟩:=Y
 clear hY
 generalize hX:parseQ data=X at *
 obtain ⟨r,e⟩:=X
 simp only at h c1 c2 c3 ⊢
 have g4:e≠4:=by intro h1;rw [if_pos h1] at h;cases h
 rw [if_neg g4] at h
 have g5:¬ (e≠0∨f≠0):=by intro h1;rw [if_pos h1] at h;cases h
 rw [if_neg g5] at h
 have g6:¬ r.method≠[71,69,84]:=by intro h1;rw [if_pos h1] at h;cases h
 rw [if_neg g6] at h
 have g7:¬ pa≠[47,109,101]:=by intro h1;rw [if_pos h1] at h;cases h
 rw [if_neg g7] at h
 have h5:(bif !(Lib.hasPrefix A [66,101,97,114,101,114,32]) then true else !wdT (Lib.trimPrefix A [66,101,97,114,101,114,32]))=false:=by
  cases hb:(bif !(Lib.hasPrefix A [66,101,97,114,101,114,32]) then true else !wdT (Lib.trimPrefix A [66,101,97,114,101,114,32])) with
  | false=>rfl
  | true=>rw [hb,if_pos rfl] at h; cases h
 obtain rfl:e=0:=by
  by_cases h3:e=0
  ·exact h3
  ·exact absurd (.inl h3) g5
 obtain rfl:f=0:=by
  by_cases h4:f=0
  ·exact h4
  ·exact absurd (.inr h4) g5
 have k3:(!(r.method==[71,69,84]))=false:=by rw [Classical.not_not.1 g6];rfl
 have k4:(!(pa==[47,109,101]))=false:=by rw [Classical.not_not.1 g7];rfl
 clear h g4 g5 g6 g7
 generalize wdT (Lib.trimPrefix A [66,101,97,114,101,114,32])=W at *
 generalize Lib.trimPrefix A [66,101,97,114,101,114,32]=T at *
 generalize Lib.hasPrefix A [66,101,97,114,101,114,32]=B at *
 refine zg [(1,{cs:=[(1,pc c1)]}),(4,{cs:=[(2,pc c2)]}),(11,{cs:=[(2,pc c3)]}),(12,{cs:=[(1,pc c4)]}),(13,{cs:=[(4,pc c5)]})] [false,false,false,false,false] [((0:Int)==(4:Int))=false,(bif (0:Int) != (0:Int) then true else (0:Int) != (0:Int))=false,(!r.method==[(71:UInt8),69,84])=false,(!pa==[(47:UInt8),109,101])=false,(bif !B then true else !W)=false] ⟨rfl,rfl,aS,aS,(show (bif !B then true else !W)=false from aS)⟩ ?_
 exact zr
end Go.Proofs.Tw
end
section
open Go Go.Sv Go.RowKit
namespace Go.Proofs.Tw
attribute [local irreducible] Wp FinQ resV Ent Pur Go.Sv.Fn Sat0
set_option maxRecDepth 100000
set_option maxHeartbeats 4000000
variable {m:Int} {g1 g2:Cell}
theorem asked_no {G:Nat→Option (List Cell)} [Back G] (key sec:Int) (l:List AsT) (n:Nat) (hn:n=l.length) (s:SoT) (x:MgT) (e:Int) (d:List UInt8)
  (cs:FnB Tryz.prog G 88 [] [.c (.str x.data)] [.c (.str []),.c (erI e)] [])
  (cf:Pur Tryz.prog G 78 [.c (.int .i64 e)] [.agg (encT (failT e))]) (c:Pur Tryz.prog G 130 [.agg (encT (failT e))] [.c (.str d)]) :
  FnB Tryz.prog G 40 [gtB key sec (.row 3 1 0 n) s .nilsl,.row 79 3 n (rowF encAs .nil l)] [.c (.ptr 0 0),.agg (encMg x)] []
   [(0,gtB key sec (.row 3 1 0 n) s (.row 5 2 0 1)),(1,.row 79 3 n (rowF encAs .nil l)),(2,mgB [⟨x.conn,x.who,[114,115],true,d⟩])]:=by
 refine zfD 2 Tryz.func40 ?_ (hr:=trivial)
 have cd:=askedD_ok key sec l n hn s x e d cf c
 refine z0 [] [] ?_
 refine zdf 2 Tryz.f40 ⟨[(0,TV.v (V1.c (Cell.ptr (0:Nat) (0:Nat)))),(2,TV.v (V1.c (Cell.ptr (2:Nat) (0:Nat)))),(3,TV.v (V1.c (Cell.ptr (3:Nat) (0:Nat)))),(4,TV.v (V1.c (Cell.ptr (4:Nat) (0:Nat))))],[(0,Blk.box 90 [Cell.int .i64 key,Cell.int .i64 sec,Cell.row (3:Nat) (1:Nat) (0:Nat) n,Cell.int .i64 s.n,Cell.int .i64 s.conn,Cell.int .i64 s.now,Cell.nilsl]),(1,Blk.row 79 (3:Nat) n (rowF encAs AsT.nil l)),(2,Blk.box 86 [Cell.ptr (0:Nat) (0:Nat)]),(3,Blk.box 33 [Cell.int .i64 x.conn,Cell.int .i64 x.who,Cell.str x.host,Cell.bool x.back,Cell.str x.data]),(4,Blk.box 141 [Cell.nilif])],5⟩ [(3,18),(4,34)] ?_
 refine zg [(3,{cs:=[(2,cb [] cs)]})] [false] [false=false] rfl ?_
 exact zed [0,1,2,3,4] cd [165]
theorem comes_no {G:Nat→Option (List Cell)} [Back G] (g:GT) (hl:g.asks.length≤1000000000) (s:SoT) (x:MgT) (hb:x.back=false) (e:Int) (d:List UInt8)
  (cs:FnB Tryz.prog G 88 [] [.c (.str x.data)] [.c (.str []),.c (erI e)] [])
  (cf:Pur Tryz.prog G 78 [.c (.int .i64 e)] [.agg (encT (failT e))]) (c:Pur Tryz.prog G 130 [.agg (encT (failT e))] [.c (.str d)]) :
  Pur Tryz.prog G 12 [.agg (encGt g),.agg (encSo s),.agg (encMg x)] [.agg (encGt g),.agg (encSo s),.c (.sl 5 1 (rowF encMg .nil [⟨x.conn,x.who,[114,115],true,d⟩]))]:=by
 refine zp Tryz.func12 ?_
 have c1:=opens_ok (G:=G) g s hl
 have c2:=asked_no (G:=G) g.key g.sec g.asks g.asks.length rfl s x e d cs cf c
 obtain ⟨xc,xw,xh,xb,xd⟩:=x
 obtain rfl:xb=false:=hb
 refine zg [(1,{cs:=[(2,cb [] c1)]}),(4,{cs:=[(2,cb [128,129] c2)]})] [false] [(MgT.mk xc xw xh false xd).back=false] rfl ?_
 refine Wp.ent' kR (Ent.pubC (b:=48) (o:=2) (e:=79) (e':=29) (cs:=[Cell.int .i64 g.key,Cell.int .i64 g.sec,Cell.row (3:Nat) (129:Nat) (0:Nat) g.asks.length]) (sz:=(3:Nat)) (id:=129) (off:=(0:Nat)) (m:=g.asks.length) (n:=g.asks.length) (f:=rowF encAs AsT.nil g.asks) (m':=g.asks.length) (f':=rowF encAs AsT.nil g.asks) kR kR kR oM rfl (fun i _ j _=>by rw [Nat.zero_add]) rfl) ?_
 refine Wp.ent' kR (Ent.pubT (t:=8) (e:=33) (sz:=5) (id:=224) (off:=0) (m:=1) (n:=1) (f:=rowF encMg .nil [⟨xc,xw,[114,115],true,d⟩]) (m':=1) (f':=rowF encMg .nil [⟨xc,xw,[114,115],true,d⟩]) kR kR oM rfl (fun i _ j _=>by rw [Nat.zero_add]) rfl) ?_
 exact zr
end Go.Proofs.Tw
end
section
open Go Go.Sv Go.RowKit
namespace Go.Proofs.Tw
attribute [local irreducible] Wp FinQ resV Ent Pur Go.Sv.Fn Sat0
set_option maxRecDepth 100000
set_option maxHeartbeats 4000000
variable {m:Int} {g1 g2:Cell} {G:Nat→Option (List Cell)} [Back G]
def pairK (u c:List UInt8):KT:=⟨7,0,[],2,rowF encK .nil [kAt u,kAt c]⟩
def contK (key:Int) (u c:List UInt8):KT:=⟨5,0,[],2,rowF encK .nil [kNum key,pairK u c]⟩
def contT (key:Int) (u c:List UInt8):TT := .mk 5 0 [] [numTT key,.mk 7 0 [] [.mk 1 0 u [],.mk 1 0 c []]]
theorem rep_cont (key:Int) (u c:List UInt8):Rep (contT key u c) (contK key u c):=by
 unfold contT contK
 rw [Rep]
 refine ⟨rfl,rfl,rfl,rfl,?_⟩
 rw [RepL,RepL]
 refine ⟨⟨kNum key,rfl,rep_num key⟩,⟨pairK u c,rfl,?_⟩,trivial⟩
 unfold pairK
 rw [Rep]
 refine ⟨rfl,rfl,rfl,rfl,?_⟩
 rw [RepL,RepL]
 exact ⟨⟨kAt u,rfl,Rep_toK (.at_ u)⟩,⟨kAt c,rfl,Rep_toK (.at_ c)⟩,trivial⟩
theorem low_cont (key:Int) (u c:List UInt8):LowR (contT key u c):=by
 unfold contT
 refine .mk (by show 2≤_;omega) (fun x hx => ?_)
 have hx:x∈[numTT key,.mk 7 0 [] [.mk 1 0 u [],.mk 1 0 c []]]:=hx
 simp only [List.mem_cons,List.not_mem_nil,or_false] at hx
 rcases hx with rfl | rfl
 ·exact low_num key
 ·exact low_toT (.two 7 (.at_ u) (.at_ c))
theorem cont_inj {k k':Int} {u u' c c':List UInt8}:cmpT (contT k u c) (contT k' u' c')=0↔k=k'∧u=u'∧c=c':=by
 rw [cmpT_iff]
 constructor
 ·intro h
  unfold contT numTT at h
  injection h with _ _ _ h
  injection h with h1 h
  injection h with h2 _
  injection h1 with _ h1
  injection h2 with _ _ _ h2
  injection h2 with h3 h2
  injection h2 with h4 _
  injection h3 with _ _ h3
  injection h4 with _ _ h4
  exact ⟨h1,h3,h4⟩
 ·rintro ⟨rfl,rfl,rfl⟩;rfl
theorem gatom_ok (s:List UInt8):Pur Tryz.prog G 51 [.c (.str s)] [.agg (encK (kAt s))]:=by
 refine zp Tryz.func51 ?_
 have e1:EqvD (.agg [.int .i64 1,.int .i64 0,.str s,.nilsl]) (.agg (encK (kAt s))):=kids_D
 have e2:EqvI (.agg [.int .i64 1,.int .i64 0,.str s,.nilsl]) (.agg (encK (kAt s))):=kids_I
 refine zg [(1,{fm:=[(1,.agg (encK (kAt s)))]})] [] [EqvI (.agg [.int .i64 1,.int .i64 0,.str s,.nilsl]) (.agg (encK (kAt s))),EqvD (.agg [.int .i64 1,.int .i64 0,.str s,.nilsl]) (.agg (encK (kAt s)))] ⟨eqvI_flat _ _ kR,(show EqvD (.agg [.int .i64 (1:Int),.int .i64 (0:Int),.str s,.nilsl]) (.agg (encK (kAt s))) from aS)⟩ ?_
 exact zr
theorem content_ok (g:GT) (u c:List UInt8):Pur Tryz.prog G 18 [.agg (encGt g),.c (.str u),.c (.str c)] [.agg (encK (contK g.key u c))]:=by
 refine zp Tryz.func18 ?_
 have c1:=gatom_ok (G:=G) u
 have c2:=gatom_ok (G:=G) c
 have e1:EqvD (.agg [.int .i64 2,.int .i64 g.key,.str [],.nilsl]) (.agg (encK (kNum g.key))):=kids_D
 have e2:EqvI (.agg [.int .i64 2,.int .i64 g.key,.str [],.nilsl]) (.agg (encK (kNum g.key))):=kids_I
 refine zg [(1,{cs:=[(1,pc c1),(3,pc c2)],fm:=[(4,.c (.sl 4 2 (rowF encK .nil [kAt u,kAt c])))]}),(2,{fm:=[(2,.agg (encK (kNum g.key))),(4,.c (.sl 4 2 (rowF encK .nil [kNum g.key,pairK u c])))]})] [] [EqvI (.c (.sl 4 2 fun i j=>nthD [.int .i64 (kAt u).k,.int .i64 (kAt u).n,.str (kAt u).s,.sl 4 (kAt u).m (kAt u).f,.int .i64 (kAt c).k,.int .i64 (kAt c).n,.str (kAt c).s,.sl 4 (kAt c).m (kAt c).f] (i*4+j))) (.c (.sl 4 2 (rowF encK KT.nil [kAt u,kAt c]))),EqvD (.c (.sl 4 2 fun i j=>nthD [.int .i64 (kAt u).k,.int .i64 (kAt u).n,.str (kAt u).s,.sl 4 (kAt u).m (kAt u).f,.int .i64 (kAt c).k,.int .i64 (kAt c).n,.str (kAt c).s,.sl 4 (kAt c).m (kAt c).f] (i*4+j))) (.c (.sl 4 2 (rowF encK KT.nil [kAt u,kAt c]))),EqvI (.agg [.int .i64 2,.int .i64 g.key,.str [],.nilsl]) (.agg (encK (kNum g.key))),EqvD (.agg [.int .i64 2,.int .i64 g.key,.str [],.nilsl]) (.agg (encK (kNum g.key))),EqvI (.c (.sl 4 2 fun i j=>nthD [.int .i64 (kNum g.key).k,.int .i64 (kNum g.key).n,.str (kNum g.key).s,.sl 4 (kNum g.key).m (kNum g.key).f,.int .i64 7,.int .i64 0,.str [],.sl 4 2 (rowF encK KT.nil [kAt u,kAt c])] (i*4+j))) (.c (.sl 4 2 (rowF encK KT.nil [kNum g.key,pairK u c]))),EqvD (.c (.sl 4 2 fun i j=>nthD [.int .i64 (kNum g.key).k,.int .i64 (kNum g.key).n,.str (kNum g.key).s,.sl 4 (kNum g.key).m (kNum g.key).f,.int .i64 7,.int .i64 0,.str [],.sl 4 2 (rowF encK KT.nil [kAt u,kAt c])] (i*4+j))) (.c (.sl 4 2 (rowF encK KT.nil [kNum g.key,pairK u c])))] ⟨fun _ _=>trivial,lit_D kR,eqvI_flat _ _ kR,aS,fun _ _=>trivial,lit_D kR⟩ ?_
 exact zr
theorem eqAsk0_ok:Pur Tryz.prog G 49 [.c .nilsl,.c .nilsl] [.c (.bool true)]:=by
 refine zp Tryz.func49 ?_
 refine zg [] [false] [((0:Int) != (0:Int))=false] rfl ?_
 refine zl (fun (k:Nat)=>⟨[(0,.v (.c .nilsl)),(1,.v (.c .nilsl)),(12,.v (.c (.int .i64 (0:Int)))),(13,.v (.c (.int .i64 (0:Int))))],[],144⟩) (fun k=>k≤0) (fun k=>0-k) 0 (Nat.zero_le _) ?_
 intro k L hk again
 refine zg [] [false] [decide ((0:Int)<(0:Int))=false] rfl ?_
 exact zr
theorem gsame0_ok (k s k' s':Int):Pur Tryz.prog G 16 [.agg [.int .i64 k,.int .i64 s,.nilsl],.agg [.int .i64 k',.int .i64 s',.nilsl]] [.c (.bool (cond (cond (k==k') (s==s') false) true false))]:=by
 refine zp Tryz.func16 ?_
 have c:=eqAsk0_ok (G:=G)
 by_cases h1:k=k'
 ·subst h1
  by_cases h2:s=s'
  ·subst h2
   have k1:(k==k)=true:=by simp
   have k2:(s==s)=true:=by simp
   rw [k1,k2]
   refine z0 [(1,{cs:=[(17,pc c)]})] [] ?_
   exact zS [.c (.bool (bif bif k==k then s==s else false then true else false))] (by simp;done)
  ·have k1:(k==k)=true:=by simp
   have k2:(s==s')=false:=by simpa using h2
   rw [k1,k2]
   refine z0 [(1,{cs:=[(17,pc c)]})] [] ?_
   exact zS [.c (.bool (bif bif k==k then s==s' else false then true else false))] (by simp only [Int.ofNat_eq_natCast,Int.toNat_natCast,List.take_length,List.drop_zero, *])
 ·have k1:(k==k')=false:=by simpa using h1
  rw [k1]
  refine z0 [(1,{cs:=[(17,pc c)]})] [] ?_
  exact zS [.c (.bool (bif bif k==k' then s==s' else false then true else false))] (by simp only [Int.ofNat_eq_natCast,Int.toNat_natCast,List.take_length,List.drop_zero, *])
end Go.Proofs.Tw
end
section
open Go Go.Sv Go.RowKit
namespace Go.Proofs.Tw
attribute [local irreducible] Wp FinQ resV Ent Pur Go.Sv.Fn Sat0
set_option maxRecDepth 100000
set_option maxHeartbeats 4000000
variable {m:Int} {g1 g2:Cell}
def within29 (a n:Int):Int:=if decide (a.tmod n<0) then a.tmod n+n else a.tmod n
theorem within29_ok {G:Nat→Option (List Cell)} [Back G] (a n:Int) (hn:0<n) (hn2:n<1000000):Pur Tryz.prog G 11 [.c (.int .i64 a),.c (.int .i64 n)] [.c (.int .i64 (within29 a n))]:=by
 have h1:=Int.lt_tmod_of_pos a hn
 have h2:=Int.tmod_lt_of_pos a hn
 refine zp Tryz.func11 ?_
 refine zg [] [] [n≠0] (by show n≠0;omega) ?_
 refine zc (decide (a.tmod n<0)) (fun h => ?_) (fun h => ?_)
 ·refine zg [] [] [inR .i64 (a.tmod n+n)] (i6) ?_
  exact zS [.c (.int .i64 (a.tmod n+n))] (by unfold within29;rw [if_pos h])
 ·refine z0 [] [] ?_
  exact zS [.c (.int .i64 (a.tmod n))] (by unfold within29;rw [if_neg (by simp [h])])
def data29:List UInt8:=[71,69,84,32,47,109,101,32,72,84,84,80,47,49,46,49,13,10,13,10]
def back29:List UInt8:=printTell (failT 9)
theorem she29:shE data29=9:=kR
theorem fit29:FitQd data29:=⟨Nat.lt_of_lt_of_le (Nat.le_of_ble_eq_true (show Nat.ble _ 1000=true by kernel_rfl)) oM,Nat.lt_of_lt_of_le (Nat.le_of_ble_eq_true (show Nat.ble _ 1000=true by kernel_rfl)) oM,Nat.lt_of_lt_of_le (Nat.le_of_ble_eq_true (show Nat.ble _ 1000=true by kernel_rfl)) oM⟩
theorem len29:back29.length≤5000:=Nat.le_of_ble_eq_true kR
theorem st29:(parseR back29).1.status=401:=kR
theorem e29:(parseR back29).2=0:=kR
theorem sf29:(failT 9).status=401:=kR
theorem fitM29:FitM (toldM (failT 9)):=⟨Nat.lt_of_lt_of_le (Nat.le_of_ble_eq_true (show Nat.ble _ 1000=true by kernel_rfl)) oM,fun f hf=>by
  have h:(toldM (failT 9)).head.all (fun f=>Nat.ble f.name.length 1000&&Nat.ble f.value.length 1000)=true:=by kernel_rfl
  have h:=List.all_eq_true.1 h f hf
  simp only [Bool.and_eq_true] at h
  have h1:=Nat.le_of_ble_eq_true h.1
  have h2:=Nat.le_of_ble_eq_true h.2
  omega,Nat.le_trans (Nat.le_of_ble_eq_true (show Nat.ble _ 10000=true by kernel_rfl)) oM,Nat.le_trans (Nat.le_of_ble_eq_true (show Nat.ble _ 10000=true by kernel_rfl)) oM⟩
theorem gnil_D (k s:Int):EqvD (.agg [.int .i64 k,.int .i64 s,.nilsl]) (.agg (encGt ⟨k,s,[]⟩)):=agg_D (a:=[.int .i64 k,.int .i64 s]) (b:=[]) nilsl_D
theorem known29_ok {G:Nat→Option (List Cell)} [Back G] (hq:GqIn m G):Pur Tryz.prog G 7 [] [.c (.bool true)]:=by
 refine zp Tryz.func7 ?_
 have c1:=shown_no (m:=m) (G:=G) hq data29 (Nat.lt_of_lt_of_le (Nat.le_of_ble_eq_true (show Nat.ble _ 1000=true by kernel_rfl)) oM) fit29 (by rw [she29];omega)
 rw [she29] at c1
 have c2:=Pur.grow (fun g cs h=>hq g cs (Gp_Gq m g cs (Gd_Gp g cs h))) (Fail_ok 9)
 have c3:=printTell_ok (G:=G) hq.pow (failT 9) (by rw [sf29];omega) (by rw [sf29];omega) fitM29
 have c4:=comes_no (G:=G) ⟨3,7,[]⟩ (by show 0≤1000000000;omega) ⟨1,1,0⟩ ⟨4,3,[114,115],false,data29⟩ rfl 9 _ c1 c2 c3
 have c5:=parse13R_ok (G:=G) back29 (by have:=len29;omega)
 have s1:=st29
 have s2:=e29
 have ca:=content_ok (G:=G) ⟨3,7,[]⟩ [97] [98]
 have cn:=num1_ok (G:=G) 3
 have cat:=at1_ok (G:=G) [97]
 have cbt:=at1_ok (G:=G) [98]
 have ct:=tm1_ok (G:=G) 7 2 (rowF encK .nil [kAt [97],kAt [98]])
 have cu:=tm1_ok (G:=G) 5 2 (rowF encK .nil [kNum 3,pairK [97] [98]])
 have cs:=same1_ok (G:=G) (contK 3 [97] [98]) (contK 3 [97] [98]) (low_cont _ _ _) (low_cont _ _ _) (rep_cont _ _ _) (rep_cont _ _ _)
 rw [cmpT_self] at cs
 have cs:Pur Tryz.prog G 17 [.agg (encK (contK 3 [97] [98])),.agg (encK (contK 3 [97] [98]))] [.c (.bool true)]:=cs
 have d1:=gsame0_ok (G:=G) 3 7 3 7
 have d2:=gsame0_ok (G:=G) 3 7 0 0
 have e1:=gnil_D 3 7
 have e2:EqvI (.agg [.int .i64 3,.int .i64 7,.nilsl]) (.agg (encGt ⟨3,7,[]⟩)):=eqvI_flat _ _ kR
 change Pur _ _ _ _ [_,_,.c (.sl 5 1 (rowF encMg .nil [⟨4,3,_,true,back29⟩]))] at c4
 generalize hX:parseR back29=X at *
 obtain ⟨⟨st,hd,bd⟩,e⟩:=X
 obtain rfl:st=401:=s1
 obtain rfl:e=0:=s2
 clear c1 c2 c3 hX
 change Pur _ _ _ [_,_,.agg [.int .i64 4,.int .i64 3,.str [114,115],.bool false,.str [71,69,84,32,47,109,101,32,72,84,84,80,47,49,46,49,13,10,13,10]]] _ at c4
 generalize back29=B at *
 refine zg [(2,{cs:=[(3,pc c4)],fm:=[(0,.agg (encGt ⟨3,7,[]⟩))]}),(6,{grd:=[(8,true),(9,true),(10,true),(11,true),(12,true),(13,true),(14,true),(15,true),(16,true),(17,true)],cs:=[(9,pc ca),(10,pc cn),(11,pc cat),(12,pc cbt),(14,pc ct),(16,pc cu),(17,pc cs),(22,pc d1),(27,pc d2)],fm:=[(8,.agg (encGt ⟨3,7,[]⟩)),(13,.c (.sl 4 2 (rowF encK .nil [kAt [97],kAt [98]]))),(15,.c (.sl 4 2 (rowF encK .nil [kNum 3,pairK [97] [98]])))]}),(5,{cs:=[(4,pc c5)]})] [false] [EqvI (.agg [.int .i64 3,.int .i64 7,.nilsl]) (.agg (encGt (GT.mk (3:Int) (7:Int) []))),EqvD (.agg [.int .i64 3,.int .i64 7,.nilsl]) (.agg (encGt (GT.mk (3:Int) (7:Int) []))),((↑(1:Nat):Int) != (1:Int))=false,(0:Int)≤(0:Int)∧(0:Int)<(↑(1:Nat):Int),(bif (0:Int)==(0:Int) then (401:Int)==(401:Int) else false)=true,EqvI (.agg [.int .i64 3,.int .i64 7,.nilsl]) (.agg (encGt (GT.mk (3:Int) (7:Int) []))),EqvD (.agg [.int .i64 3,.int .i64 7,.nilsl]) (.agg (encGt (GT.mk (3:Int) (7:Int) []))),(bif (0:Int)==(0:Int) then (401:Int)==(401:Int) else false)=true,(bif (0:Int)==(0:Int) then (401:Int)==(401:Int) else false)=true,(bif (0:Int)==(0:Int) then (401:Int)==(401:Int) else false)=true,(bif (0:Int)==(0:Int) then (401:Int)==(401:Int) else false)=true,(bif (0:Int)==(0:Int) then (401:Int)==(401:Int) else false)=true,EqvI (.c (.sl 4 (2:Nat) fun i j=>nthD [.int .i64 (kAt [(97:UInt8)]).k,.int .i64 (kAt [(97:UInt8)]).n,.str (kAt [(97:UInt8)]).s,.sl 4 (kAt [(97:UInt8)]).m (kAt [(97:UInt8)]).f,.int .i64 (kAt [(98:UInt8)]).k,.int .i64 (kAt [(98:UInt8)]).n,.str (kAt [(98:UInt8)]).s,.sl 4 (kAt [(98:UInt8)]).m (kAt [(98:UInt8)]).f] (i*(4:Nat)+j))) (.c (.sl 4 (2:Nat) (rowF encK KT.nil [kAt [(97:UInt8)],kAt [(98:UInt8)]]))),EqvD (.c (.sl 4 (2:Nat) fun i j=>nthD [.int .i64 (kAt [(97:UInt8)]).k,.int .i64 (kAt [(97:UInt8)]).n,.str (kAt [(97:UInt8)]).s,.sl 4 (kAt [(97:UInt8)]).m (kAt [(97:UInt8)]).f,.int .i64 (kAt [(98:UInt8)]).k,.int .i64 (kAt [(98:UInt8)]).n,.str (kAt [(98:UInt8)]).s,.sl 4 (kAt [(98:UInt8)]).m (kAt [(98:UInt8)]).f] (i*(4:Nat)+j))) (.c (.sl 4 (2:Nat) (rowF encK KT.nil [kAt [(97:UInt8)],kAt [(98:UInt8)]]))),(bif (0:Int)==(0:Int) then (401:Int)==(401:Int) else false)=true,(bif (0:Int)==(0:Int) then (401:Int)==(401:Int) else false)=true,EqvI (.c (.sl 4 (2:Nat) fun i j=>nthD [.int .i64 (kNum (3:Int)).k,.int .i64 (kNum (3:Int)).n,.str (kNum (3:Int)).s,.sl 4 (kNum (3:Int)).m (kNum (3:Int)).f,.int .i64 (KT.mk (7:Int) (0:Int) [] (2:Nat) (rowF encK KT.nil [kAt [(97:UInt8)],kAt [(98:UInt8)]])).k,.int .i64 (KT.mk (7:Int) (0:Int) [] (2:Nat) (rowF encK KT.nil [kAt [(97:UInt8)],kAt [(98:UInt8)]])).n,.str (KT.mk (7:Int) (0:Int) [] (2:Nat) (rowF encK KT.nil [kAt [(97:UInt8)],kAt [(98:UInt8)]])).s,.sl 4 (KT.mk (7:Int) (0:Int) [] (2:Nat) (rowF encK KT.nil [kAt [(97:UInt8)],kAt [(98:UInt8)]])).m (KT.mk (7:Int) (0:Int) [] (2:Nat) (rowF encK KT.nil [kAt [(97:UInt8)],kAt [(98:UInt8)]])).f] (i*(4:Nat)+j))) (.c (.sl 4 (2:Nat) (rowF encK KT.nil [kNum (3:Int),pairK [(97:UInt8)] [(98:UInt8)]]))),EqvD (.c (.sl 4 (2:Nat) fun i j=>nthD [.int .i64 (kNum (3:Int)).k,.int .i64 (kNum (3:Int)).n,.str (kNum (3:Int)).s,.sl 4 (kNum (3:Int)).m (kNum (3:Int)).f,.int .i64 (KT.mk (7:Int) (0:Int) [] (2:Nat) (rowF encK KT.nil [kAt [(97:UInt8)],kAt [(98:UInt8)]])).k,.int .i64 (KT.mk (7:Int) (0:Int) [] (2:Nat) (rowF encK KT.nil [kAt [(97:UInt8)],kAt [(98:UInt8)]])).n,.str (KT.mk (7:Int) (0:Int) [] (2:Nat) (rowF encK KT.nil [kAt [(97:UInt8)],kAt [(98:UInt8)]])).s,.sl 4 (KT.mk (7:Int) (0:Int) [] (2:Nat) (rowF encK KT.nil [kAt [(97:UInt8)],kAt [(98:UInt8)]])).m (KT.mk (7:Int) (0:Int) [] (2:Nat) (rowF encK KT.nil [kAt [(97:UInt8)],kAt [(98:UInt8)]])).f] (i*(4:Nat)+j))) (.c (.sl 4 (2:Nat) (rowF encK KT.nil [kNum (3:Int),pairK [(97:UInt8)] [(98:UInt8)]]))),(bif (0:Int)==(0:Int) then (401:Int)==(401:Int) else false)=true,(bif (0:Int)==(0:Int) then (401:Int)==(401:Int) else false)=true] ⟨eqvI_flat _ _ kR,aS,rfl,oM,rfl,eqvI_flat _ _ kR,aS,rfl,rfl,rfl,rfl,rfl,fun _ _=>trivial,lit_D kR,rfl,rfl,fun _ _=>trivial,lit_D kR,rfl,rfl⟩ ?_
 exact zr
theorem guardApart_ok {G:Nat→Option (List Cell)} [Back G] (hq:GqIn m G) (k l:Int) (a b c d:List UInt8):Pur Tryz.prog G 5 [.c (.int .i64 k),.c (.int .i64 l),.c (.str a),.c (.str b),.c (.str c),.c (.str d)] [.c (.bool true)]:=by
 refine zp Tryz.func5 ?_
 have c0:=known29_ok (m:=m) (G:=G) hq
 have w1:=within29_ok (G:=G) k 50 oM oM
 have w2:=within29_ok (G:=G) l 50 oM oM
 generalize within29 k 50=K1 at *
 generalize within29 l 50=K2 at *
 have ca:=content_ok (G:=G) ⟨K1,0,[]⟩ a b
 have cb2:=content_ok (G:=G) ⟨K2,0,[]⟩ c d
 have cs:=same1_ok (G:=G) (contK K1 a b) (contK K2 c d) (low_cont _ _ _) (low_cont _ _ _) (rep_cont _ _ _) (rep_cont _ _ _)
 have hq:(cmpT (contT K1 a b) (contT K2 c d)==0)=(bif bif K1==K2 then a==c else false then b==d else false):=by
  rw [Bool.eq_iff_iff,beq_iff_eq,cont_inj]
  cases h1:(K1==K2)<;>cases h2:(a==c)<;>cases h3:(b==d)<;>simp_all
 rw [hq] at cs
 have e1:=gnil_D K1 0
 have e2:EqvI (.agg [.int .i64 K1,.int .i64 0,.nilsl]) (.agg (encGt ⟨K1,0,[]⟩)):=eqvI_flat _ _ kR
 have e3:=gnil_D K2 0
 have e4:EqvI (.agg [.int .i64 K2,.int .i64 0,.nilsl]) (.agg (encGt ⟨K2,0,[]⟩)):=eqvI_flat _ _ kR
 clear hq
 cases ht:(bif bif bif decide ((a.length:Int)>100) then true else decide ((b.length:Int)>100) then true else decide ((c.length:Int)>100) then true else decide ((d.length:Int)>100)) with
 | true =>
  refine zg [(1,{cs:=[(0,pc c0)]})] [false,true] [(!true)=false,(bif bif bif decide ((a.length:Int)>(100:Int)) then true else decide ((b.length:Int)>(100:Int)) then true else decide ((c.length:Int)>(100:Int)) then true else decide ((d.length:Int)>(100:Int)))=true] ⟨rfl,(show (bif bif bif decide ((↑a.length:Int)>(100:Int)) then true else decide ((↑b.length:Int)>(100:Int)) then true else decide ((↑c.length:Int)>(100:Int)) then true else decide ((↑d.length:Int)>(100:Int)))=true from aS)⟩ ?_
  exact zr
 | false =>
  refine zg [(7,{cs:=[(2,pc cs)]}),(6,{cs:=[(3,pc ca),(7,pc cb2)],fm:=[(0,.agg (encGt ⟨K1,0,[]⟩)),(4,.agg (encGt ⟨K2,0,[]⟩))]}),(1,{cs:=[(0,pc c0)]}),(5,{cs:=[(1,pc w1),(4,pc w2)]})] [false,false] [(!true)=false,(bif bif bif decide ((a.length:Int)>(100:Int)) then true else decide ((b.length:Int)>(100:Int)) then true else decide ((c.length:Int)>(100:Int)) then true else decide ((d.length:Int)>(100:Int)))=false,EqvI (.agg [.int .i64 K1,.int .i64 0,.nilsl]) (.agg (encGt (GT.mk K1 (0:Int) []))),EqvD (.agg [.int .i64 K1,.int .i64 0,.nilsl]) (.agg (encGt (GT.mk K1 (0:Int) []))),EqvI (.agg [.int .i64 K2,.int .i64 0,.nilsl]) (.agg (encGt (GT.mk K2 (0:Int) []))),EqvD (.agg [.int .i64 K2,.int .i64 0,.nilsl]) (.agg (encGt (GT.mk K2 (0:Int) [])))] ⟨rfl,aS,eqvI_flat _ _ kR,aS,eqvI_flat _ _ kR,(show EqvD (.agg [.int .i64 K2,.int .i64 (0:Int),.nilsl]) (.agg (encGt (GT.mk K2 (0:Int) []))) from aS)⟩ ?_
  exact zS [.c (.bool (bif (bif bif K1==K2 then a==c else false then b==d else false)==bif bif K1==K2 then a==c else false then b==d else false then (↑(contK (GT.mk K1 (0:Int) []).key a b).m:Int)==(2:Int) else false))] (by rw [show ((((contK (GT.mk K1 (0:Int) []).key a b).m:Nat):Int)==(2:Int))=true from rfl];simp)
end Go.Proofs.Tw
end
section
open Go Go.Sv Go.RowKit
namespace Go.Proofs.Tw
attribute [local irreducible] Wp FinQ resV Ent Pur Go.Sv.Fn Sat0
set_option maxRecDepth 100000
set_option maxHeartbeats 4000000
variable {G:Nat→Option (List Cell)} [Back G]
def urlE:List UInt8:=[97,112,112,108,105,99,97,116,105,111,110,47,120,45,119,119,119,45,102,111,114,109,45,117,114,108,101,110,99,111,100,101,100]
def introF (sec:Int) (token:List UInt8):List FT:=[⟨[99,108,105,101,110,116,95,105,100],[114,115]⟩,⟨[99,108,105,101,110,116,95,115,101,99,114,101,116],markB (numTT sec)⟩,⟨[116,111,107,101,110],token⟩]
def introQ (body:List UInt8):QT:=⟨[80,79,83,84],[47,105,110,116,114,111,115,112,101,99,116],[⟨[99,111,110,116,101,110,116,45,116,121,112,101],urlE⟩],body⟩
theorem asks_ok (key sec:Int) (l:List AsT) (n:Nat) (hn:n=l.length) (hn2:n<8) (s:SoT) (x:MgT) (token q d:List UInt8) (s2:SoT) (conn:Int)
  (cq:Pur Tryz.prog G 153 [.c (encH (introF sec token))] [.c (.str q)])
  (cp:Pur Tryz.prog G 152 [.agg (encQ (introQ q))] [.c (.str d)]) (hd:d≠[])
  (ca:Pur Tryz.prog G 155 [.agg (encSo s),.c (.int .i64 5),.c (.str [97,115]),.c (.str d)] [.agg (encMg ⟨conn,5,[97,115],false,d⟩),.agg (encSo s2),.c (.bool true)]) :
  FnB Tryz.prog G 89 [gtB key sec (.row 3 1 0 n) s .nilsl,.row 79 3 n (rowF encAs .nil l)] [.c (.ptr 0 0),.agg (encMg x),.c (.str token)] [.c .nilif]
   [(0,gtB key sec (.row 3 3 0 (n+1)) s2 (.row 5 2 0 1)),(2,mgB [⟨conn,5,[97,115],false,d⟩]),(3,.row 79 3 (n+1) (rowF encAs .nil (l++[⟨x.conn,x.who,conn⟩])))]:=by
 refine zf Tryz.func89 ?_
 have ck:=keyC_ok (G:=G) sec
 have hk:decide ((n:Int)≥8)=false:=decide_eq_false oM
 have hd2:(d==[])=false:=by simpa using hd
 have e1:BlkEqv (.row 33 5 1 (catF 0 (fun _ _ => .nilif) (fun i j=>nthD (encMg ⟨conn,5,[97,115],false,d⟩) ((0+i)*5+j)))) (.row 33 5 1 (rowF encMg .nil [⟨conn,5,[97,115],false,d⟩])):=by
  refine BlkEqv.row_ext rfl fun i hi j hj => ?_
  obtain rfl:i=0:=by omega
  unfold catF
  rw [if_neg oM]
  simp [rowF]
 have e2:BlkEqv (.row 79 3 (n+1) (catF n (rowF encAs .nil l) (fun i j=>nthD (encAs ⟨x.conn,x.who,conn⟩) ((0+i)*3+j)))) (.row 79 3 (n+1) (rowF encAs .nil (l++[⟨x.conn,x.who,conn⟩]))):=enc_app l _ hn
 unfold introF at cq
 unfold introQ at cp
 generalize markB (numTT sec)=mk at *
 refine zg [(3,{cs:=[(8,pc ck),(13,pc cq),(15,pc cp)],fm:=[(1,.c (encH [⟨[99,111,110,116,101,110,116,45,116,121,112,101],urlE⟩])),(12,.c (encH [⟨[99,108,105,101,110,116,95,105,100],[114,115]⟩,⟨[99,108,105,101,110,116,95,115,101,99,114,101,116],mk⟩,⟨[116,111,107,101,110],token⟩]))]}),(7,{bs:=[(9,.row 33 5 1 (rowF encMg .nil [⟨conn,5,[97,115],false,d⟩]))]}),(8,{bs:=[(14,.row 79 3 (n+1) (rowF encAs .nil (l++[⟨x.conn,x.who,conn⟩])))]}),(4,{cs:=[(5,pc ca)]})] [false,false] [decide ((n:Int)≥8)=false,EqvI (.c (.sl 2 (1:Nat) fun i j=>nthD [.str [(99:UInt8),111,110,116,101,110,116,45,116,121,112,101],.str [(97:UInt8),112,112,108,105,99,97,116,105,111,110,47,120,45,119,119,119,45,102,111,114,109,45,117,114,108,101,110,99,111,100,101,100]] (i*(2:Nat)+j))) (.c (encH [FT.mk [(99:UInt8),111,110,116,101,110,116,45,116,121,112,101] urlE])),EqvD (.c (.sl 2 (1:Nat) fun i j=>nthD [.str [(99:UInt8),111,110,116,101,110,116,45,116,121,112,101],.str [(97:UInt8),112,112,108,105,99,97,116,105,111,110,47,120,45,119,119,119,45,102,111,114,109,45,117,114,108,101,110,99,111,100,101,100]] (i*(2:Nat)+j))) (.c (encH [FT.mk [(99:UInt8),111,110,116,101,110,116,45,116,121,112,101] urlE])),EqvI (.c (.sl 2 (3:Nat) fun i j=>nthD [.str [(99:UInt8),108,105,101,110,116,95,105,100],.str [(114:UInt8),115],.str [(99:UInt8),108,105,101,110,116,95,115,101,99,114,101,116],.str mk,.str [(116:UInt8),111,107,101,110],.str token] (i*(2:Nat)+j))) (.c (encH [FT.mk [(99:UInt8),108,105,101,110,116,95,105,100] [(114:UInt8),115],FT.mk [(99:UInt8),108,105,101,110,116,95,115,101,99,114,101,116] mk,FT.mk [(116:UInt8),111,107,101,110] token])),EqvD (.c (.sl 2 (3:Nat) fun i j=>nthD [.str [(99:UInt8),108,105,101,110,116,95,105,100],.str [(114:UInt8),115],.str [(99:UInt8),108,105,101,110,116,95,115,101,99,114,101,116],.str mk,.str [(116:UInt8),111,107,101,110],.str token] (i*(2:Nat)+j))) (.c (encH [FT.mk [(99:UInt8),108,105,101,110,116,95,105,100] [(114:UInt8),115],FT.mk [(99:UInt8),108,105,101,110,116,95,115,101,99,114,101,116] mk,FT.mk [(116:UInt8),111,107,101,110] token])),(bif d==[] then true else !true)=false,56≤140737488355328,BlkEqv (.row 33 (5:Nat) (1:Nat) (catF (0:Nat) (fun (x x_1:Nat) => .nilif) fun i j=>nthD (encMg (MgT.mk conn (5:Int) [(97:UInt8),115] false d)) (((0:Nat)+i)*(5:Nat)+j))) (.row 33 (5:Nat) (1:Nat) (rowF encMg MgT.nil [MgT.mk conn (5:Int) [(97:UInt8),115] false d])),0+1≤1,(n+1)*24≤140737488355328,BlkEqv (.row 79 (3:Nat) (n+(1:Nat)) (catF n (rowF encAs AsT.nil l) fun i j=>nthD [.int .i64 x.conn,.int .i64 x.who,.int .i64 (MgT.mk conn (5:Int) [(97:UInt8),115] false d).conn] (((0:Nat)+i)*(3:Nat)+j))) (.row 79 (3:Nat) (n+(1:Nat)) (rowF encAs AsT.nil (l++[AsT.mk x.conn x.who conn]))),n≤n,0+1≤1] ⟨aS,fun _ _=>trivial,lit_D kR,fun _ _=>trivial,lit_D kR,sO,oM,aS,oM,oM,aS,oM,(show (0:Nat)+(1:Nat)≤(1:Nat) from oM)⟩ ?_
 exact zb [898,1234]
theorem askedN_ok (key sec:Int) (l:List AsT) (n:Nat) (s:SoT) (x:MgT) (a:MgT) :
  FnD Tryz.prog G 87 [gtB key sec (.row 3 1 0 n) s (.row 5 2 0 1),.row 79 3 n (rowF encAs .nil l),mgB [a],.box 86 [.ptr 0 0],msX x,.box 141 [.nilif]] [.c (.ptr 5 0),.c (.ptr 3 0),.c (.ptr 4 0)]
   (fun r h=>r=[]∧h=[(0,gtB key sec (.row 3 1 0 n) s (.row 5 2 0 1)),(1,.row 79 3 n (rowF encAs .nil l)),(2,mgB [a])]):=by
 refine zfd Tryz.func87 ?_ (hr:=trivial)
 refine zg [] [false] [false=false] rfl ?_
 exact zb []
theorem asked_yes (key sec:Int) (l:List AsT) (n:Nat) (hn:n=l.length) (s s2:SoT) (x a:MgT) (token:List UInt8)
  (cs:FnB Tryz.prog G 88 [] [.c (.str x.data)] [.c (.str token),.c .nilif] [])
  (ca:FnB Tryz.prog G 89 [gtB key sec (.row 3 1 0 n) s .nilsl,.row 79 3 n (rowF encAs .nil l)] [.c (.ptr 0 0),.agg (encMg x),.c (.str token)] [.c .nilif]
   [(0,gtB key sec (.row 3 3 0 (n+1)) s2 (.row 5 2 0 1)),(2,mgB [a]),(3,.row 79 3 (n+1) (rowF encAs .nil (l++[⟨x.conn,x.who,a.conn⟩])))]) :
  FnB Tryz.prog G 40 [gtB key sec (.row 3 1 0 n) s .nilsl,.row 79 3 n (rowF encAs .nil l)] [.c (.ptr 0 0),.agg (encMg x)] []
   [(0,gtB key sec (.row 3 3 0 (n+1)) s2 (.row 5 2 0 1)),(2,mgB [a]),(3,.row 79 3 (n+1) (rowF encAs .nil (l++[⟨x.conn,x.who,a.conn⟩])))]:=by
 refine zfD 2 Tryz.func40 ?_ (hr:=trivial)
 have cd:=askedN_ok (G:=G) key sec (l++[⟨x.conn,x.who,a.conn⟩]) (n+1) s2 x a
 refine z0 [] [] ?_
 refine zdf 2 Tryz.f40 ⟨[(0,TV.v (V1.c (Cell.ptr (0:Nat) (0:Nat)))),(2,TV.v (V1.c (Cell.ptr (2:Nat) (0:Nat)))),(3,TV.v (V1.c (Cell.ptr (3:Nat) (0:Nat)))),(4,TV.v (V1.c (Cell.ptr (4:Nat) (0:Nat))))],[(0,Blk.box 90 [Cell.int .i64 key,Cell.int .i64 sec,Cell.row (3:Nat) (1:Nat) (0:Nat) n,Cell.int .i64 s.n,Cell.int .i64 s.conn,Cell.int .i64 s.now,Cell.nilsl]),(1,Blk.row 79 (3:Nat) n (rowF encAs AsT.nil l)),(2,Blk.box 86 [Cell.ptr (0:Nat) (0:Nat)]),(3,Blk.box 33 [Cell.int .i64 x.conn,Cell.int .i64 x.who,Cell.str x.host,Cell.bool x.back,Cell.str x.data]),(4,Blk.box 141 [Cell.nilif])],5⟩ [(3,18),(4,34)] ?_
 refine zg [(3,{cs:=[(2,cb [] cs)]}),(5,{cs:=[(3,cb [0,1] ca)]})] [true] [true=true] rfl ?_
 exact zed [0,214,213,2,3,4] cd [213,214]
theorem comes_yes (g:GT) (hl:g.asks.length≤1000000000) (s s2:SoT) (x a:MgT) (hb:x.back=false) (token:List UInt8)
  (cs:FnB Tryz.prog G 88 [] [.c (.str x.data)] [.c (.str token),.c .nilif] [])
  (ca:FnB Tryz.prog G 89 [gtB g.key g.sec (.row 3 1 0 g.asks.length) s .nilsl,.row 79 3 g.asks.length (rowF encAs .nil g.asks)] [.c (.ptr 0 0),.agg (encMg x),.c (.str token)] [.c .nilif]
   [(0,gtB g.key g.sec (.row 3 3 0 (g.asks.length+1)) s2 (.row 5 2 0 1)),(2,mgB [a]),(3,.row 79 3 (g.asks.length+1) (rowF encAs .nil (g.asks++[⟨x.conn,x.who,a.conn⟩])))]) :
  Pur Tryz.prog G 12 [.agg (encGt g),.agg (encSo s),.agg (encMg x)] [.agg (encGt ⟨g.key,g.sec,g.asks++[⟨x.conn,x.who,a.conn⟩]⟩),.agg (encSo s2),.c (.sl 5 1 (rowF encMg .nil [a]))]:=by
 refine zp Tryz.func12 ?_
 have c1:=opens_ok (G:=G) g s hl
 have c2:=asked_yes (G:=G) g.key g.sec g.asks g.asks.length rfl s s2 x a token cs ca
 obtain ⟨xc,xw,xh,xb,xd⟩:=x
 obtain rfl:xb=false:=hb
 refine zg [(1,{cs:=[(2,cb [] c1)]}),(4,{cs:=[(2,cb [128,129] c2)]})] [false] [(MgT.mk xc xw xh false xd).back=false] rfl ?_
 refine Wp.ent' kR (Ent.pubC (b:=48) (o:=2) (e:=79) (e':=29) (cs:=[Cell.int .i64 g.key,Cell.int .i64 g.sec,Cell.row (3:Nat) (225:Nat) (0:Nat) (g.asks.length+(1:Nat))]) (sz:=(3:Nat)) (id:=225) (off:=(0:Nat)) (m:=g.asks.length+(1:Nat)) (n:=g.asks.length+(1:Nat)) (f:=rowF encAs AsT.nil (g.asks++[AsT.mk (MgT.mk xc xw xh false xd).conn (MgT.mk xc xw xh false xd).who a.conn])) (m':=(GT.mk g.key g.sec (g.asks++[AsT.mk (MgT.mk xc xw xh false xd).conn (MgT.mk xc xw xh false xd).who a.conn])).asks.length) (f':=rowF encAs AsT.nil (GT.mk g.key g.sec (g.asks++[AsT.mk (MgT.mk xc xw xh false xd).conn (MgT.mk xc xw xh false xd).who a.conn])).asks) kR kR kR oM (by simp) (fun i _ j _=>by rw [Nat.zero_add]) rfl) ?_
 refine Wp.ent' kR (Ent.pubT (t:=8) (e:=33) (sz:=5) (id:=224) (off:=0) (m:=1) (n:=1) (f:=rowF encMg .nil [a]) (m':=1) (f':=rowF encMg .nil [a]) kR kR oM rfl (fun i _ j _=>by rw [Nat.zero_add]) rfl) ?_
 exact zr
theorem asks_full (key sec:Int) (l:List AsT) (n:Nat) (hn:n=l.length) (hn2:8≤n) (s:SoT) (x:MgT) (token:List UInt8) :
  FnB Tryz.prog G 89 [gtB key sec (.row 3 1 0 n) s .nilsl,.row 79 3 n (rowF encAs .nil l)] [.c (.ptr 0 0),.agg (encMg x),.c (.str token)] [.c (erI 16)]
   [(0,gtB key sec (.row 3 1 0 n) s .nilsl),(1,.row 79 3 n (rowF encAs .nil l))]:=by
 refine zf Tryz.func89 ?_
 have hk:decide ((n:Int)≥8)=true:=decide_eq_true oM
 refine zg [] [true] [decide ((n:Int)≥8)=true] (oN aS) ?_
 exact zb []
theorem asked_full (key sec:Int) (l:List AsT) (n:Nat) (hn:n=l.length) (s:SoT) (x:MgT) (e:Int) (d token:List UInt8)
  (cs:FnB Tryz.prog G 88 [] [.c (.str x.data)] [.c (.str token),.c .nilif] [])
  (ca:FnB Tryz.prog G 89 [gtB key sec (.row 3 1 0 n) s .nilsl,.row 79 3 n (rowF encAs .nil l)] [.c (.ptr 0 0),.agg (encMg x),.c (.str token)] [.c (erI e)]
   [(0,gtB key sec (.row 3 1 0 n) s .nilsl),(1,.row 79 3 n (rowF encAs .nil l))])
  (cf:Pur Tryz.prog G 78 [.c (.int .i64 e)] [.agg (encT (failT e))]) (c:Pur Tryz.prog G 130 [.agg (encT (failT e))] [.c (.str d)]) :
  FnB Tryz.prog G 40 [gtB key sec (.row 3 1 0 n) s .nilsl,.row 79 3 n (rowF encAs .nil l)] [.c (.ptr 0 0),.agg (encMg x)] []
   [(0,gtB key sec (.row 3 1 0 n) s (.row 5 2 0 1)),(1,.row 79 3 n (rowF encAs .nil l)),(2,mgB [⟨x.conn,x.who,[114,115],true,d⟩])]:=by
 refine zfD 2 Tryz.func40 ?_ (hr:=trivial)
 have cd:=askedD_ok key sec l n hn s x e d cf c
 refine z0 [] [] ?_
 refine zdf 2 Tryz.f40 ⟨[(0,TV.v (V1.c (Cell.ptr (0:Nat) (0:Nat)))),(2,TV.v (V1.c (Cell.ptr (2:Nat) (0:Nat)))),(3,TV.v (V1.c (Cell.ptr (3:Nat) (0:Nat)))),(4,TV.v (V1.c (Cell.ptr (4:Nat) (0:Nat))))],[(0,Blk.box 90 [Cell.int .i64 key,Cell.int .i64 sec,Cell.row (3:Nat) (1:Nat) (0:Nat) n,Cell.int .i64 s.n,Cell.int .i64 s.conn,Cell.int .i64 s.now,Cell.nilsl]),(1,Blk.row 79 (3:Nat) n (rowF encAs AsT.nil l)),(2,Blk.box 86 [Cell.ptr (0:Nat) (0:Nat)]),(3,Blk.box 33 [Cell.int .i64 x.conn,Cell.int .i64 x.who,Cell.str x.host,Cell.bool x.back,Cell.str x.data]),(4,Blk.box 141 [Cell.nilif])],5⟩ [(3,18),(4,34)] ?_
 refine zg [(3,{cs:=[(2,cb [] cs)]}),(5,{cs:=[(3,cb [0,1] ca)]})] [true] [true=true] rfl ?_
 exact zed [0,1,2,3,4] cd [245]
def asP (c:Int) (a:AsT):Bool:=a.back==c
def asI (c:Int) (l:List AsT):Int:=ixF (asP c) l
theorem told1_ok (x:MgT) (a:AsT):FnB Tryz.prog G 76 [msX x] [.agg (encAs a),.c (.ptr 0 0)] [.c (.bool (asP x.conn a))] [(0,msX x)]:=by
 refine zf Tryz.func76 ?_
 refine z0 [] [] ?_
 exact zb []
theorem idxA_ok (x:MgT) (l:List AsT) (n:Nat) (hn:n=l.length) (hl:n≤1000000000):FnB Tryz.prog G 75 [.row 79 3 n (rowF encAs .nil l),msX x] [.c (.row 3 0 0 n),.c (clo1 76 (.ptr 1 0))] [.c (.int .i64 (asI x.conn l))] [(0,.row 79 3 n (rowF encAs .nil l)),(1,msX x)]:=by
 refine zf Tryz.func75 ?_
 refine z0 [] [] ?_
 refine zl (fun (k:Nat)=>⟨[(0,.v (.c (.row (3:Nat) (0:Nat) (0:Nat) n))),(1,.v (.c (clo1 76 (.ptr 1 0)))),(7,.v (.c (.int .i64 (n:Int)))),(8,.v (.c (.int .i64 (k:Int))))],[(0,.row 79 (3:Nat) n (rowF encAs AsT.nil l)),(1,msX x)],66⟩) (fun k=>k≤n∧∀ i,i<k→asP x.conn (l.getD i .nil)=false) (fun k=>n-k) 0 ⟨Nat.zero_le _,fun _ h=>absurd h (Nat.not_lt_zero _)⟩ ?_
 intro k L ⟨hk,hall⟩ again
 rcases Nat.lt_or_ge k n with hlt | hge
 ·have c:=told1_ok (G:=G) x (l.getD (0+k) .nil)
  rw [show asP x.conn (l.getD (0+k) .nil)=asP x.conn (l.getD k .nil) by rw [Nat.zero_add]] at c
  cases hq:asP x.conn (l.getD k .nil) with
  | true =>
   rw [hq] at c
   have hx:asI x.conn l=(k:Int):=ixF_some (p:=asP x.conn) (d:=AsT.nil) oM hall hq
   rw [hx]
   clear hall hq hx
   refine zg [(4,{cs:=[(5,cb [1] c)]})] [true,true] [decide ((k:Int)<(n:Int))=true,(0:Int)≤(k:Int)∧(k:Int)<(n:Int),0+k<n,true=true] ⟨sO,oM,oM,rfl⟩ ?_
   exact zb []
  | false =>
   rw [hq] at c
   have hall':∀ i,i<k+1→asP x.conn (l.getD i .nil)=false:=fun i hi=>by
    rcases Nat.lt_or_ge i k with h | h
    ·exact hall i h
    ·rw [show i=k by omega];exact hq
   clear hall hq
   refine zg [(4,{cs:=[(5,cb [1] c)]})] [true,false] [decide ((k:Int)<(n:Int))=true,(0:Int)≤(k:Int)∧(k:Int)<(n:Int),0+k<n,false=false,inR .i64 ((k:Int)+1)] ⟨sO,oM,oM,rfl,i6⟩ ?_
   exact za [] (again _ (k+1) ⟨aS,aS⟩ oM)
 ·have hx:asI x.conn l = -1:=ixF_none (p:=asP x.conn) (d:=AsT.nil) (fun i hi=>hall i oM)
  rw [hx]
  clear hall hx
  refine zg [] [false] [decide ((k:Int)<(n:Int))=false] (oN sO) ?_
  exact zb []
theorem del_eqv {e:TypeId} (l:List AsT) (n k:Nat) (hn:n=l.length) (hk:k<n) (m:Nat) (hm:m=n-(k+1)) (o p:Nat) (ho:o=k+m) (hp:p=n-o) :
  BlkEqv (.row e 3 n (cpyF o p (cpyF k m (rowF encAs .nil l) (fun i j=>rowF encAs .nil l (k+1+i) j)) (fun _ j=>nthD [.int .i64 0,.int .i64 0,.int .i64 0] j))) (.row e 3 n (rowF encAs .nil (l.eraseIdx k))):=by
 refine BlkEqv.row_ext rfl fun i hi j hj => ?_
 have hz:l.eraseIdx k=l.take k++l.drop (k+1):=List.eraseIdx_eq_take_drop_succ l k
 have hlen:(l.eraseIdx k).length=n-1:=by rw [List.length_eraseIdx];simp [← hn,hk]
 unfold cpyF rowF
 by_cases h1:i<o
 ·rw [if_pos h1]
  by_cases h2:i<k
  ·rw [if_pos h2]
   rw [List.getD_eq_getElem?_getD,List.getD_eq_getElem?_getD,List.getElem?_eraseIdx_of_lt h2]
  ·rw [if_neg h2,if_pos oM]
   show nthD (encAs (l.getD (k+1+(i-k)) AsT.nil)) j=nthD (encAs ((l.eraseIdx k).getD i AsT.nil)) j
   rw [List.getD_eq_getElem?_getD,List.getD_eq_getElem?_getD,List.getElem?_eraseIdx_of_ge oM,show k+1+(i-k)=i+1 by omega]
 ·rw [if_neg h1,if_pos oM]
  have:(l.eraseIdx k).getD i AsT.nil=AsT.nil:=by
   rw [List.getD_eq_getElem?_getD,List.getElem?_eq_none oM];rfl
  rw [this];rfl
theorem delA_ok (l:List AsT) (n k:Nat) (hn:n=l.length) (hk:k<n) (hl:n≤1000000) :
  FnB Tryz.prog G 77 [.row 79 3 n (rowF encAs .nil l)] [.c (.row 3 0 0 n),.c (.int .i64 (k:Int)),.c (.int .i64 ((k:Int)+1))] [.c (.row 3 0 0 (n-1))] [(0,.row 79 3 n (rowF encAs .nil (l.eraseIdx k)))]:=by
 refine zf Tryz.func77 ?_
 have h1:((k:Int)==(k:Int)+1)=false:=by simpa using (by omega:¬ ((k:Int)=(k:Int)+1))
 have e1:∃ F1,BlkEqv (.row 79 3 n (cpyF k (n-(k+1)) (rowF encAs .nil l) (fun i j=>rowF encAs .nil l (0+(k+1)+i) j))) (.row 79 3 n F1)∧BlkEqv (.row 79 3 n (cpyF (0+(n-1)) (n-(n-1)) F1 (fun _ j=>nthD [.int .i64 0,.int .i64 0,.int .i64 0] j))) (.row 79 3 n (rowF encAs .nil (l.eraseIdx k))):=by
  refine ⟨cpyF k (n-(k+1)) (rowF encAs .nil l) (fun i j=>rowF encAs .nil l (k+1+i) j),?_,del_eqv (e:=79) l n k hn hk (n-(k+1)) rfl (0+(n-1)) (n-(n-1)) oM oM⟩
  rw [Nat.zero_add]
  exact BlkEqv.refl _
 obtain ⟨F1,e1,e3⟩:=e1
 have e2:EqvD (.c (.row 3 0 0 (k+(n-(k+1))))) (.c (.row 3 0 0 (n-1))):=eqvD_of (by rw [show k+(n-(k+1))=n-1 by omega])
 have e4:EqvI (.c (.row 3 0 0 (k+(n-(k+1))))) (.c (.row 3 0 0 (n-1))):=fun S h=>h
 generalize rowF encAs AsT.nil (l.eraseIdx k)=R at *
 generalize rowF encAs AsT.nil l=F0 at *
 refine zg [(5,{wrp:=[(6,())],bs:=[(6,.row 79 3 n F1)],fm:=[(7,.c (.row 3 0 0 (n-1)))]}),(6,{wrp:=[(4,())],bs:=[(5,.row 79 3 n R)]})] [false] [(0:Int)≤Int.ofNat k∧Int.ofNat k≤Int.ofNat (k+1)∧Int.ofNat (k+1)≤Int.ofNat n∧Int.ofNat n≤(n:Int),((k:Int)==(k:Int)+(1:Int))=false,(0:Int)≤Int.ofNat (0)∧Int.ofNat (0)≤Int.ofNat k∧Int.ofNat k≤(n:Int),(0:Int)≤Int.ofNat (k+1)∧Int.ofNat (k+1)≤Int.ofNat n∧Int.ofNat n≤(n:Int),(Int.ofNat k).toNat-(0:Nat)+((Int.ofNat n).toNat-(Int.ofNat (k+1)).toNat)≤n,BlkEqv (.row 79 (3:Nat) n fun i j=>if i<(Int.ofNat k).toNat-(0:Nat) then F0 i j else if i<(Int.ofNat k).toNat-(0:Nat)+((Int.ofNat n).toNat-(Int.ofNat (k+1)).toNat) then F0 ((0:Nat)+(Int.ofNat (k+1)).toNat+(i-((Int.ofNat k).toNat-(0:Nat)))) j else F0 i j) (.row 79 (3:Nat) n F1),(0:Nat)+(Int.ofNat (k+1)).toNat+((Int.ofNat n).toNat-(Int.ofNat (k+1)).toNat)≤n,EqvI (.c (.row 3 (0:Nat) (0:Nat) ((Int.ofNat k).toNat-(0:Nat)+((Int.ofNat n).toNat-(Int.ofNat (k+1)).toNat)))) (.c (.row 3 (0:Nat) (0:Nat) (n-(1:Nat)))),EqvD (.c (.row 3 (0:Nat) (0:Nat) ((Int.ofNat k).toNat-(0:Nat)+((Int.ofNat n).toNat-(Int.ofNat (k+1)).toNat)))) (.c (.row 3 (0:Nat) (0:Nat) (n-(1:Nat)))),(0:Int)≤Int.ofNat (n-(1:Nat))∧Int.ofNat (n-(1:Nat))≤Int.ofNat n∧(↑(0:Nat):Int)+Int.ofNat n≤(n:Int),(0:Nat)+(Int.ofNat (n-(1:Nat))).toNat+((Int.ofNat n).toNat-(Int.ofNat (n-(1:Nat))).toNat)≤n,BlkEqv (.row 79 (3:Nat) n fun i j=>if i<(0:Nat)+(Int.ofNat (n-(1:Nat))).toNat then F1 i j else if i<(0:Nat)+(Int.ofNat (n-(1:Nat))).toNat+((Int.ofNat n).toNat-(Int.ofNat (n-(1:Nat))).toNat) then nthD [.int .i64 0,.int .i64 0,.int .i64 0] j else F1 i j) (.row 79 (3:Nat) n R)] ⟨⟨(by simp;done),⟨sO,⟨sO,(by simp;done)⟩⟩⟩,aS,⟨dC,⟨(by simp;done),sO⟩⟩,⟨sO,⟨sO,(by simp;done)⟩⟩,sO,aS,sO,fun S h=>h,aS,⟨(by simp;done),⟨(by simp;done),(by simp;done)⟩⟩,(by simp;done),(show BlkEqv (.row 79 (3:Nat) n fun i j=>if i<(0:Nat)+(Int.ofNat (n-(1:Nat))).toNat then F1 i j else if i<(0:Nat)+(Int.ofNat (n-(1:Nat))).toNat+((Int.ofNat n).toNat-(Int.ofNat (n-(1:Nat))).toNat) then nthD [.int .i64 (0:Int),.int .i64 (0:Int),.int .i64 (0:Int)] j else F1 i j) (.row 79 (3:Nat) n R) from aS)⟩ ?_
 exact zb []
theorem toldD_ok (key sec:Int) (m n:Nat) (f:Nat→Nat→Cell) (s:SoT) (a:AsT) (r:RT) (d:List UInt8) (c:Pur Tryz.prog G 130 [.agg (encT r)] [.c (.str d)]) :
  FnD Tryz.prog G 79 [gtB key sec (.row 3 1 0 m) s .nilsl,.row 79 3 n f,.box 86 [.ptr 0 0],.box 79 (encAs a),.box 69 (encT r)] [.c (.ptr 2 0),.c (.ptr 3 0),.c (.ptr 4 0)]
   (fun r h=>r=[]∧h=[(0,gtB key sec (.row 3 1 0 m) s (.row 5 5 0 1)),(1,.row 79 3 n f),(5,mgB [⟨a.front,a.asker,[114,115],true,d⟩])]):=by
 refine zfd Tryz.func79 ?_ (hr:=trivial)
 have c2:=answersG_ok (G:=G) key sec m n f s a.front a.asker r d c
 refine z0 [(0,{cs:=[(6,cb [0,1] c2)]})] [] ?_
 exact zb [101]
theorem told_bad (hE:HasErr G) (hL:HasLen G) (hp:HasPow G) (key sec:Int) (l:List AsT) (n:Nat) (hn:n=l.length) (hl:n≤1000000) (s:SoT) (x:MgT) (k:Nat) (hk:asI x.conn l=(k:Int)) (hk2:k<n) (hx:x.data.length<1000000000) (hb:(parseR x.data).1.body.length≤1000000000)
  (hbad:(bif bif (parseR x.data).2 != 0 then true else (parseJ (parseR x.data).1.body).2 != 0 then true else (parseR x.data).1.status != 200)=true) (d:List UInt8)
  (cf:Pur Tryz.prog G 78 [.c (.int .i64 9)] [.agg (encT (failT 9))]) (c:Pur Tryz.prog G 130 [.agg (encT (failT 9))] [.c (.str d)]) :
  FnB Tryz.prog G 39 [gtB key sec (.row 3 1 0 n) s .nilsl,.row 79 3 n (rowF encAs .nil l)] [.c (.ptr 0 0),.agg (encMg x)] []
   [(0,gtB key sec (.row 3 1 0 (n-1)) s (.row 5 2 0 1)),(1,.row 79 3 n (rowF encAs .nil (l.eraseIdx k))),(2,mgB [⟨(l.getD k .nil).front,(l.getD k .nil).asker,[114,115],true,d⟩])]:=by
 refine zfD 6 Tryz.func39 ?_ (hr:=trivial)
 have ci:=idxA_ok (G:=G) x l n hn (by omega)
 have cdl:=delA_ok (G:=G) l n k hn hk2 hl
 rw [hk] at ci
 have c1:=parseR_ok (G:=G) hL x.data hx
 have c2:=pparse_ok (G:=G) hE hp (parseR x.data).1.body hb
 have cd:=toldD_ok (G:=G) key sec (n-1) n (rowF encAs .nil (l.eraseIdx k)) s (l.getD k .nil) (failT 9) d c
 have hlt:(k:Int)<(n:Int):=by omega
 generalize l.eraseIdx k=le at *
 generalize parseJ (parseR x.data).1.body=V at *
 generalize parseR x.data=R at *
 obtain ⟨R,e⟩:=R
 obtain ⟨V,f⟩:=V
 simp only at hbad c1 c2
 clear c
 refine zg [(1,{cs:=[(6,cb [1,18] ci)],fm:=[(5,.c (clo1 76 (.ptr 18 0)))]}),(3,{fm:=[(7,.agg (encAs (l.getD k .nil)))]}),(4,{cs:=[(9,cb [1] cdl)]}),(5,{cs:=[(0,pc cf)]})] [false] [EqvI (.c (cloRaw 76 [.c (.ptr 18 0)])) (.c (clo1 76 (.ptr 18 0))),EqvD (.c (cloRaw 76 [.c (.ptr 18 0)])) (.c (clo1 76 (.ptr 18 0))),decide ((k:Int)<0)=false,(0:Int)≤(k:Int)∧(k:Int)<(n:Int),0+k<n,EqvD (.agg (encAs (l.getD (0+k) .nil))) (.agg (encAs (l.getD k .nil))),inR .i64 ((k:Int)+1)] ⟨clo1_I _ _,clo1_D _ _,rfl,oM,oM,eqvD_of (by rw [Nat.zero_add]),i6⟩ ?_
 refine zdf 6 Tryz.f39 ⟨[(0,TV.v (V1.c (Cell.ptr (0:Nat) (0:Nat)))),(2,TV.v (V1.c (Cell.ptr (2:Nat) (0:Nat)))),(3,TV.v (V1.c (Cell.ptr (3:Nat) (0:Nat)))),(5,TV.v (V1.c (Cell.ptr (4:Nat) (0:Nat)))),(6,TV.v (V1.c (Cell.ptr (5:Nat) (0:Nat))))],[(0,Blk.box 90 [Cell.int .i64 key,Cell.int .i64 sec,Cell.row (3:Nat) (1:Nat) (0:Nat) (n-(1:Nat)),Cell.int .i64 s.n,Cell.int .i64 s.conn,Cell.int .i64 s.now,Cell.nilsl]),(1,Blk.row 79 (3:Nat) n (rowF encAs AsT.nil le)),(2,Blk.box 86 [Cell.ptr (0:Nat) (0:Nat)]),(3,Blk.box 33 [Cell.int .i64 x.conn,Cell.int .i64 x.who,Cell.str x.host,Cell.bool x.back,Cell.str x.data]),(4,Blk.box 79 [Cell.int .i64 (l.getD k AsT.nil).front,Cell.int .i64 (l.getD k AsT.nil).asker,Cell.int .i64 (l.getD k AsT.nil).back]),(5,Blk.box 69 [Cell.int .i64 (failT (9:Int)).status,Cell.sl (2:Nat) (failT (9:Int)).head.length fun (i j:Nat)=>nthD (encF ((failT (9:Int)).head.getD i FT.nil)) j,Cell.str (failT (9:Int)).body])],6⟩ [(3,18),(4,322),(5,594)] ?_
 refine zg [(7,{cs:=[(2,pc c1)]}),(8,{cs:=[(2,pc c2)]})] [true] [(bif bif e != (0:Int) then true else f != (0:Int) then true else R.status != (200:Int))=true] (oN aS) ?_
 exact zed [0,1,2,4,5] cd [470]
end Go.Proofs.Tw
end
section

end
section

end
section

end
section

end
section
open Go Go.Sv Go.RowKit
namespace Go.Proofs.Tw
attribute [local irreducible] Wp FinQ resV Ent Pur Go.Sv.Fn Sat0
set_option maxRecDepth 100000
set_option maxHeartbeats 4000000
variable {G:Nat→Option (List Cell)} [Back G]
theorem comes_full (g:GT) (hl:g.asks.length≤1000000000) (hn8:8≤g.asks.length) (s:SoT) (x:MgT) (hb:x.back=false) (d token:List UInt8)
  (cs:FnB Tryz.prog G 88 [] [.c (.str x.data)] [.c (.str token),.c .nilif] [])
  (cf:Pur Tryz.prog G 78 [.c (.int .i64 16)] [.agg (encT (failT 16))]) (c:Pur Tryz.prog G 130 [.agg (encT (failT 16))] [.c (.str d)]) :
  Pur Tryz.prog G 12 [.agg (encGt g),.agg (encSo s),.agg (encMg x)] [.agg (encGt g),.agg (encSo s),.c (.sl 5 1 (rowF encMg .nil [⟨x.conn,x.who,[114,115],true,d⟩]))]:=by
 refine zp Tryz.func12 ?_
 have c1:=opens_ok (G:=G) g s hl
 have c3:=asks_full (G:=G) g.key g.sec g.asks g.asks.length rfl hn8 s x token
 have c2:=asked_full (G:=G) g.key g.sec g.asks g.asks.length rfl s x 16 d token cs c3 cf c
 obtain ⟨xc,xw,xh,xb,xd⟩:=x
 obtain rfl:xb=false:=hb
 clear c cf cs c3
 refine zg [(1,{cs:=[(2,cb [] c1)]}),(4,{cs:=[(2,cb [128,129] c2)]})] [false] [(MgT.mk xc xw xh false xd).back=false] rfl ?_
 refine Wp.ent' kR (Ent.pubC (b:=48) (o:=2) (e:=79) (e':=29) (cs:=[Cell.int .i64 g.key,Cell.int .i64 g.sec,Cell.row (3:Nat) (129:Nat) (0:Nat) g.asks.length]) (sz:=(3:Nat)) (id:=129) (off:=(0:Nat)) (m:=g.asks.length) (n:=g.asks.length) (f:=rowF encAs AsT.nil g.asks) (m':=g.asks.length) (f':=rowF encAs AsT.nil g.asks) kR kR kR oM rfl (fun i _ j _=>by rw [Nat.zero_add]) rfl) ?_
 refine Wp.ent' kR (Ent.pubT (t:=8) (e:=33) (sz:=5) (id:=224) (off:=0) (m:=1) (n:=1) (f:=rowF encMg .nil [⟨xc,xw,[114,115],true,d⟩]) (m':=1) (f':=rowF encMg .nil [⟨xc,xw,[114,115],true,d⟩]) kR kR oM rfl (fun i _ j _=>by rw [Nat.zero_add]) rfl) ?_
 exact zr
theorem comes_told (g:GT) (hl:g.asks.length≤1000000) (s:SoT) (x:MgT) (hb:x.back=true) (k:Nat) (hk2:k<g.asks.length) (d:List UInt8)
  (c2:FnB Tryz.prog G 39 [gtB g.key g.sec (.row 3 1 0 g.asks.length) s .nilsl,.row 79 3 g.asks.length (rowF encAs .nil g.asks)] [.c (.ptr 0 0),.agg (encMg x)] []
   [(0,gtB g.key g.sec (.row 3 1 0 (g.asks.length-1)) s (.row 5 2 0 1)),(1,.row 79 3 g.asks.length (rowF encAs .nil (g.asks.eraseIdx k))),(2,mgB [⟨(g.asks.getD k .nil).front,(g.asks.getD k .nil).asker,[114,115],true,d⟩])]) :
  Pur Tryz.prog G 12 [.agg (encGt g),.agg (encSo s),.agg (encMg x)] [.agg (encGt ⟨g.key,g.sec,g.asks.eraseIdx k⟩),.agg (encSo s),.c (.sl 5 1 (rowF encMg .nil [⟨(g.asks.getD k .nil).front,(g.asks.getD k .nil).asker,[114,115],true,d⟩]))]:=by
 refine zp Tryz.func12 ?_
 have c1:=opens_ok (G:=G) g s oM
 have hlen:(g.asks.eraseIdx k).length=g.asks.length-1:=by rw [List.length_eraseIdx,if_pos hk2]
 obtain ⟨xc,xw,xh,xb,xd⟩:=x
 obtain rfl:xb=true:=hb
 refine zg [(1,{cs:=[(2,cb [] c1)]}),(3,{cs:=[(2,cb [128,129] c2)]})] [true] [(MgT.mk xc xw xh true xd).back=true] rfl ?_
 refine Wp.ent' kR (Ent.pubC (b:=48) (o:=2) (e:=79) (e':=29) (cs:=[Cell.int .i64 g.key,Cell.int .i64 g.sec,Cell.row (3:Nat) (129:Nat) (0:Nat) (g.asks.length-(1:Nat))]) (sz:=(3:Nat)) (id:=129) (off:=(0:Nat)) (m:=g.asks.length-(1:Nat)) (n:=g.asks.length) (f:=rowF encAs AsT.nil (g.asks.eraseIdx k)) (m':=(GT.mk g.key g.sec (g.asks.eraseIdx k)).asks.length) (f':=rowF encAs AsT.nil (GT.mk g.key g.sec (g.asks.eraseIdx k)).asks) kR kR kR oM sO (fun i _ j _=>by rw [Nat.zero_add]) rfl) ?_
 refine Wp.ent' kR (Ent.pubT (t:=8) (e:=33) (sz:=5) (id:=224) (off:=0) (m:=1) (n:=1) (f:=rowF encMg .nil [⟨(g.asks.getD k .nil).front,(g.asks.getD k .nil).asker,[114,115],true,d⟩]) (m':=1) (f':=rowF encMg .nil [⟨(g.asks.getD k .nil).front,(g.asks.getD k .nil).asker,[114,115],true,d⟩]) kR kR oM rfl (fun i _ j _=>by rw [Nat.zero_add]) rfl) ?_
 exact zr
def asEq (x y:AsT):Bool:=bif bif x.front==y.front then x.asker==y.asker else false then x.back==y.back else false
def asEqL (a b:List AsT):Bool:=a.length==b.length&&(List.range a.length).all fun i=>asEq (a.getD i .nil) (b.getD i .nil)
theorem asEqL_no {a b:List AsT} {k:Nat} (hk:k<a.length) (h:asEq (a.getD k .nil) (b.getD k .nil)=false):asEqL a b=false:=by
 unfold asEqL
 rw [Bool.and_eq_false_iff]
 right
 rw [List.all_eq_false]
 exact ⟨k,List.mem_range.2 hk,by rw [h];decide⟩
theorem asEqL_yes {a b:List AsT} (hl:a.length=b.length) (h:∀ i,i<a.length→asEq (a.getD i .nil) (b.getD i .nil)=true):asEqL a b=true:=by
 unfold asEqL
 rw [Bool.and_eq_true]
 exact ⟨by simpa using hl,List.all_eq_true.2 fun i hi=>h i (List.mem_range.1 hi)⟩
theorem asEqL_len {a b:List AsT} (hl:a.length≠b.length):asEqL a b=false:=by
 unfold asEqL
 rw [Bool.and_eq_false_iff]
 left
 simpa using hl
theorem eqAsk_ok (a b:List AsT) (ha:a.length≤1000000000) (hb:b.length≤1000000000):Pur Tryz.prog G 49 [.c (asS a),.c (asS b)] [.c (.bool (asEqL a b))]:=by
 refine zp Tryz.func49 ?_
 by_cases hl:a.length=b.length
 ·have h1:(((a.length:Nat):Int) != ((b.length:Nat):Int))=false:=by rw [hl];simp
  refine zg [] [false] [((a.length:Int) != (b.length:Int))=false] (oN aS) ?_
  refine z0 [] [] ?_
  refine zl (fun (k:Nat)=>⟨[(0,.v (.c (.sl (3:Nat) a.length (rowF encAs AsT.nil a)))),(1,.v (.c (.sl (3:Nat) b.length (rowF encAs AsT.nil b)))),(12,.v (.c (.int .i64 (↑a.length:Int)))),(13,.v (.c (.int .i64 (k:Int))))],[],144⟩) (fun k=>k≤a.length∧∀ i,i<k→asEq (a.getD i .nil) (b.getD i .nil)=true) (fun k=>a.length-k) 0 ⟨Nat.zero_le _,fun _ h=>absurd h (Nat.not_lt_zero _)⟩ ?_
  intro k L ⟨hk,hall⟩ again
  rcases Nat.lt_or_ge k a.length with hlt | hge
  ·cases hq:asEq (a.getD k .nil) (b.getD k .nil) with
   | true =>
    have hall':∀ i,i<k+1→asEq (a.getD i .nil) (b.getD i .nil)=true:=fun i hi=>by
     rcases Nat.lt_or_ge i k with h | h
     ·exact hall i h
     ·rw [show i=k by omega];exact hq
    clear hall
    unfold asEq at hq
    refine zg [] [true,false] [decide ((k:Int)<(a.length:Int))=true,(0:Int)≤(k:Int)∧(k:Int)<(a.length:Int),(0:Int)≤(k:Int)∧(k:Int)<(b.length:Int),(!((a.getD k .nil).front==(b.getD k .nil).front&&((a.getD k .nil).asker==(b.getD k .nil).asker&&((a.getD k .nil).back==(b.getD k .nil).back&&true))))=false,inR .i64 ((k:Int)+1)] ⟨sO,oM,oM,(by simp_all<;>omega),i6⟩ ?_
    exact za [] (again _ (k+1) ⟨aS,aS⟩ oM)
   | false =>
    rw [asEqL_no hlt hq]
    clear hall
    unfold asEq at hq
    refine zg [] [true,true] [decide ((k:Int)<(a.length:Int))=true,(0:Int)≤(k:Int)∧(k:Int)<(a.length:Int),(0:Int)≤(k:Int)∧(k:Int)<(b.length:Int),(!((a.getD k .nil).front==(b.getD k .nil).front&&((a.getD k .nil).asker==(b.getD k .nil).asker&&((a.getD k .nil).back==(b.getD k .nil).back&&true))))=true] ⟨sO,oM,oM,(show (!((a.getD k .nil).front==(b.getD k .nil).front&&((a.getD k .nil).asker==(b.getD k .nil).asker&&((a.getD k .nil).back==(b.getD k .nil).back&&true))))=true from (by simp_all<;>omega))⟩ ?_
    exact zr
  ·rw [asEqL_yes hl (fun i hi=>hall i oM)]
   clear hall
   refine zg [] [false] [decide ((k:Int)<(a.length:Int))=false] (oN sO) ?_
   exact zr
 ·have h1:(((a.length:Nat):Int) != ((b.length:Nat):Int))=true:=by simpa using (by omega:¬ ((a.length:Int)=(b.length:Int)))
  rw [asEqL_len hl]
  refine zg [] [true] [((a.length:Int) != (b.length:Int))=true] (oN aS) ?_
  exact zr
end Go.Proofs.Tw
end
section
open Go Go.Sv Go.RowKit
namespace Go.Proofs.Tw
attribute [local irreducible] Wp FinQ resV Ent Pur Go.Sv.Fn Sat0
set_option maxRecDepth 100000
set_option maxHeartbeats 4000000
variable {m:Int}
def gtEq (g h:GT):Bool:=bif bif g.key==h.key then g.sec==h.sec else false then asEqL g.asks h.asks else false
theorem gsame_ok {G:Nat→Option (List Cell)} [Back G] (g h:GT) (hg:g.asks.length≤1000000000) (hh:h.asks.length≤1000000000):Pur Tryz.prog G 16 [.agg (encGt g),.agg (encGt h)] [.c (.bool (gtEq g h))]:=by
 refine zp Tryz.func16 ?_
 have c:=eqAsk_ok (G:=G) g.asks h.asks hg hh
 unfold gtEq
 generalize asEqL g.asks h.asks=E at *
 refine z0 [(1,{cs:=[(17,pc c)]})] [] ?_
 exact zr
theorem bl3 {n:Nat} (h:Nat.ble n 1000=true):n<1000000000:=by have:=Nat.le_of_ble_eq_true h;omega
def askQ29 (token:List UInt8):QT:=⟨[71,69,84],[47,109,101],[⟨[97,117,116,104,111,114,105,122,97,116,105,111,110],[66,101,97,114,101,114,32]++token⟩],[]⟩
def askM29 (token:List UInt8) (conn who:Int):MgT:=⟨conn,who,[114,115],false,printAskT (askQ29 token)⟩
theorem lawAsk_ok {G:Nat→Option (List Cell)} [Back G] (token:List UInt8) (ht:token.length≤1000000) (conn who:Int) (hf:FitH (askQ29 token).head (askQ29 token).body):Pur Tryz.prog G 23 [.c (.str token),.c (.int .i64 conn),.c (.int .i64 who)] [.agg (encMg (askM29 token conn who))]:=by
 refine zp Tryz.func23 ?_
 have c:=printAsk13_ok (G:=G) (askQ29 token) hf (bl3 kR) (bl3 kR)
 unfold askM29
 generalize printAskT (askQ29 token)=d at *
 unfold askQ29 at c
 refine zg [(1,{cs:=[(7,pc c)],fm:=[(5,.c (encH [⟨[97,117,116,104,111,114,105,122,97,116,105,111,110],[66,101,97,114,101,114,32]++token⟩]))]})] [] [7+token.length≤9223372036854775807,EqvI (.c (.sl 2 (1:Nat) fun i j=>nthD [.str [(97:UInt8),117,116,104,111,114,105,122,97,116,105,111,110],.str ([(66:UInt8),101,97,114,101,114,32]++token)] (i*(2:Nat)+j))) (.c (encH [FT.mk [(97:UInt8),117,116,104,111,114,105,122,97,116,105,111,110] ([(66:UInt8),101,97,114,101,114,32]++token)])),EqvD (.c (.sl 2 (1:Nat) fun i j=>nthD [.str [(97:UInt8),117,116,104,111,114,105,122,97,116,105,111,110],.str ([(66:UInt8),101,97,114,101,114,32]++token)] (i*(2:Nat)+j))) (.c (encH [FT.mk [(97:UInt8),117,116,104,111,114,105,122,97,116,105,111,110] ([(66:UInt8),101,97,114,101,114,32]++token)]))] ⟨oM,fun _ _=>trivial,lit_D kR⟩ ?_
 exact zr
def tokX:List UInt8:=[120]
def dataX:List UInt8:=printAskT (askQ29 tokX)
theorem fitX:FitH (askQ29 tokX).head (askQ29 tokX).body:=⟨bl3 kR,fun f hf=>by
  obtain rfl:=List.mem_singleton.1 hf
  exact ⟨bl3 kR,bl3 kR⟩,bl3 kR,Nat.le_trans (Nat.le_of_ble_eq_true (show Nat.ble _ 1000=true by kernel_rfl)) oM⟩
theorem sheX:shE dataX=0:=kR
theorem shtX:shT dataX=tokX:=kR
theorem fitXd:FitQd dataX:=⟨bl3 kR,bl3 kR,bl3 kR⟩
def srcC:Nat→Int
 | 0=>5
 | n+1=>srcC n+1
theorem srcC_eq:∀ n,srcC n=5+(n:Int)
 | 0=>rfl
 | n+1=>by rw [srcC,srcC_eq n]; omega
def asksN:Nat→List AsT
 | 0=>[]
 | n+1=>asksN n++[⟨100+(n:Int),3,srcC n⟩]
theorem asksN_len:∀ n,(asksN n).length=n
 | 0=>rfl
 | n+1=>by rw [asksN,List.length_append,asksN_len n]; rfl
def bodyX:List UInt8:=printQ (introF 7 tokX)
def askX:List UInt8:=printAskT (introQ bodyX)
theorem fitMX:FitM (askedM (introQ bodyX)):=⟨Nat.lt_of_lt_of_le (Nat.le_of_ble_eq_true (show Nat.ble _ 1000=true by kernel_rfl)) oM,fun f hf=>by
  have h:(askedM (introQ bodyX)).head.all (fun f=>Nat.ble f.name.length 1000&&Nat.ble f.value.length 1000)=true:=by kernel_rfl
  have h:=List.all_eq_true.1 h f hf
  simp only [Bool.and_eq_true] at h
  have h1:=Nat.le_of_ble_eq_true h.1
  have h2:=Nat.le_of_ble_eq_true h.2
  omega,Nat.le_trans (Nat.le_of_ble_eq_true (show Nat.ble _ 10000=true by kernel_rfl)) oM,Nat.le_trans (Nat.le_of_ble_eq_true (show Nat.ble _ 10000=true by kernel_rfl)) oM⟩
theorem comesX {G:Nat→Option (List Cell)} [Back G] (hq:GqIn m G) (l:List AsT) (hl:l.length<8) (c conn:Int) (hc:0≤c∧c≤1000) (who:Int) :
  Pur Tryz.prog G 12 [.agg (encGt ⟨3,7,l⟩),.agg (encSo ⟨1,c,0⟩),.agg (encMg (askM29 tokX conn who))] [.agg (encGt ⟨3,7,l++[⟨conn,who,c⟩]⟩),.agg (encSo ⟨1,c+1,0⟩),.c (.sl 5 1 (rowF encMg .nil [⟨c,5,[97,115],false,askX⟩]))]:=by
 have cs:=shown_yes (m:=m) (G:=G) hq dataX (bl3 kR) fitXd sheX
 rw [shtX] at cs
 have cq:=Pur.grow (fun g cs h=>hq g cs (Gp_Gq m g cs h)) (printQ_ok (introF 7 tokX) (by show 3≤1000000000000;omega) (Nat.le_trans (Nat.le_of_ble_eq_true (show Nat.ble _ 1000=true by kernel_rfl)) oM))
 have cp:=printAsk_ok (G:=G) hq.pow (introQ bodyX) ⟨bl3 kR,bl3 kR,fitMX⟩
 have ca:=poolAsk_ok (G:=G) ⟨1,c,0⟩ 5 [97,115] askX (by show c≤1073741824;omega) (by show -1000000000000≤c;omega)
 have h1:=asks_ok (G:=G) 3 7 l l.length rfl hl ⟨1,c,0⟩ (askM29 tokX conn who) tokX bodyX askX ⟨1,c+1,0⟩ c cq cp (by decide +kernel) ca
 exact comes_yes (G:=G) ⟨3,7,l⟩ (by show l.length≤1000000000;omega) ⟨1,c,0⟩ ⟨1,c+1,0⟩ (askM29 tokX conn who) ⟨c,5,[97,115],false,askX⟩ rfl tokX cs h1
end Go.Proofs.Tw
end
section
open Go Go.Sv Go.RowKit
namespace Go.Proofs.Tw
attribute [local irreducible] Wp FinQ resV Ent Pur Go.Sv.Fn Sat0
set_option maxRecDepth 100000
set_option maxHeartbeats 4000000
variable {m:Int}
theorem within29_lo (a n:Int) (hn:0<n):0≤within29 a n∧within29 a n<n:=by
 have h1:=Int.tmod_lt_of_pos a hn
 have h2:=Int.lt_tmod_of_pos a hn
 unfold within29
 split<;>rename_i h<;>simp only [decide_eq_true_eq,Int.not_lt,Bool.not_eq_true,decide_eq_false_iff_not] at h<;>omega
theorem asks8:∀ k,k<8→asI ((asksN 8).getD k .nil).back (asksN 8)=(k:Int)∧((asksN 8).getD k .nil).front=100+(k:Int):=by
 intro k hk
 match k,hk with
 | 0,_=>exact ⟨kR,kR⟩
 | 1,_=>exact ⟨kR,kR⟩
 | 2,_=>exact ⟨kR,kR⟩
 | 3,_=>exact ⟨kR,kR⟩
 | 4,_=>exact ⟨kR,kR⟩
 | 5,_=>exact ⟨kR,kR⟩
 | 6,_=>exact ⟨kR,kR⟩
 | 7,_=>exact ⟨kR,kR⟩
 | k+8,h=>omega
def full29:List UInt8:=printTell (failT 16)
theorem fitM16:FitM (toldM (failT 16)):=⟨Nat.lt_of_lt_of_le (Nat.le_of_ble_eq_true (show Nat.ble _ 1000=true by kernel_rfl)) oM,fun f hf=>by
  have h:(toldM (failT 16)).head.all (fun f=>Nat.ble f.name.length 1000&&Nat.ble f.value.length 1000)=true:=by kernel_rfl
  have h:=List.all_eq_true.1 h f hf
  simp only [Bool.and_eq_true] at h
  have h1:=Nat.le_of_ble_eq_true h.1
  have h2:=Nat.le_of_ble_eq_true h.2
  omega,Nat.le_trans (Nat.le_of_ble_eq_true (show Nat.ble _ 10000=true by kernel_rfl)) oM,Nat.le_trans (Nat.le_of_ble_eq_true (show Nat.ble _ 10000=true by kernel_rfl)) oM⟩
theorem sf16:(failT 16).status=503:=kR
theorem st16:(parseR full29).1.status=503:=kR
theorem len16:full29.length≤5000:=Nat.le_of_ble_eq_true kR
theorem badX:(bif bif (parseR tokX).2 != 0 then true else (parseJ (parseR tokX).1.body).2 != 0 then true else (parseR tokX).1.status != 200)=true:=kR
theorem gtEq8:gtEq ⟨3,7,asksN 8⟩ ⟨3,7,asksN 8⟩=true:=kR
theorem guardFull_ok {G:Nat→Option (List Cell)} [Back G] (hq:GqIn m G) (hE:HasErr G) (n:Int):Pur Tryz.prog G 6 [.c (.int .i64 n)] [.c (.bool true)]:=by
 refine zp Tryz.func6 ?_
 have c0:=known29_ok (m:=m) (G:=G) hq
 have e1:=gnil_D 3 7
 refine zg [(3,{fm:=[(0,.agg (encGt ⟨3,7,[]⟩))]}),(1,{cs:=[(0,pc c0)]})] [false] [(!true)=false,EqvI (.agg [.int .i64 3,.int .i64 7,.nilsl]) (.agg (encGt (GT.mk (3:Int) (7:Int) []))),EqvD (.agg [.int .i64 3,.int .i64 7,.nilsl]) (.agg (encGt (GT.mk (3:Int) (7:Int) [])))] ⟨rfl,eqvI_flat _ _ kR,(show EqvD (.agg [.int .i64 (3:Int),.int .i64 (7:Int),.nilsl]) (.agg (encGt (GT.mk (3:Int) (7:Int) []))) from aS)⟩ ?_
 refine zl (fun (k:Nat)=>⟨[(0,.v (.c (.int .i64 n))),(3,.v (.c (.ptr (80:Nat) (0:Nat)))),(4,.v (.c (.ptr (96:Nat) (0:Nat)))),(5,.v (.c (.int .i64 (k:Int))))],[(80,.box 29 (encGt ⟨3,7,asksN k⟩)),(96,.box 31 [.int .i64 (1:Int),.int .i64 (srcC k),.int .i64 (0:Int)])],160⟩) (fun k=>k≤8) (fun k=>8-k) 0 (Nat.zero_le _) ?_
 intro k L hk again
 clear e1
 rcases Nat.lt_or_ge k 8 with hlt | hge
 ·have c1:=lawAsk_ok (G:=G) tokX (Nat.le_of_lt (Nat.lt_of_lt_of_le (Nat.lt_of_le_of_lt (Nat.le_of_ble_eq_true (show Nat.ble tokX.length 1000=true by kernel_rfl)) (show 1000<1001 by omega)) oM)) (100+(k:Int)) 3 fitX
  have hc:=srcC_eq k
  have hln:=asksN_len k
  have c2:=comesX (m:=m) (G:=G) hq (asksN k) oM (srcC k) (100+(k:Int)) oM 3
  have e2:asksN k++[⟨100+(k:Int),3,srcC k⟩]=asksN (k+1):=rfl
  rw [e2] at c2
  have hln2:=asksN_len (k+1)
  have hL2:(((asksN (k+1)).length:Int) != (k:Int)+1)=false:=by rw [hln2];simp
  generalize askX=aX at *
  generalize hm1:askM29 tokX (100+(k:Int)) 3=M1 at *
  obtain ⟨M1c,M1w,M1h,M1b,M1d⟩:=M1
  refine zg [(7,{cs:=[(4,pc c1),(5,pc c2)]})] [true,false] [decide ((k:Int)<8)=true,inR .i64 (100+(k:Int)),((↑(1:Nat):Int) != (1:Int))=false→(0:Int)≤(0:Int)∧(0:Int)<(↑(1:Nat):Int),(bif (↑(1:Nat):Int) != (1:Int) then true else false)=false→inR .i64 ((k:Int)+(1:Int)),(bif bif (↑(1:Nat):Int) != (1:Int) then true else false then true else (↑(GT.mk (3:Int) (7:Int) (asksN (k+(1:Nat)))).asks.length:Int) != (k:Int)+(1:Int))=false,inR .i64 ((k:Int)+1)] ⟨sO,i6,oM,(fun _=>i6),aS,i6⟩ ?_
  exact za [] (again _ (k+1) aS oM)
 ·obtain rfl:k=8:=by omega
  clear hk hge again
  have c1:=lawAsk_ok (G:=G) tokX (Nat.le_of_lt (Nat.lt_of_lt_of_le (Nat.lt_of_le_of_lt (Nat.le_of_ble_eq_true (show Nat.ble tokX.length 1000=true by kernel_rfl)) (show 1000<1001 by omega)) oM)) 200 3 fitX
  have cs:=shown_yes (m:=m) (G:=G) hq dataX (bl3 kR) fitXd sheX
  rw [shtX] at cs
  have cf:=Pur.grow (fun g cs h=>hq g cs (Gp_Gq m g cs (Gd_Gp g cs h))) (Fail_ok 16)
  have cp:=printTell_ok (G:=G) hq.pow (failT 16) (by rw [sf16];omega) (by rw [sf16];omega) fitM16
  have h8:=asksN_len 8
  have c2:=comes_full (G:=G) ⟨3,7,asksN 8⟩ (by show (asksN 8).length≤1000000000;omega) (by show 8≤(asksN 8).length;omega) ⟨1,srcC 8,0⟩ (askM29 tokX 200 3) rfl full29 tokX cs cf cp
  have c3:=gsame_ok (G:=G) ⟨3,7,asksN 8⟩ ⟨3,7,asksN 8⟩ (by show (asksN 8).length≤1000000000;omega) (by show (asksN 8).length≤1000000000;omega)
  rw [gtEq8] at c3
  have c4:=parse13R_ok (G:=G) full29 (by have:=len16;omega)
  have c5:=within29_ok (G:=G) n 8 oM oM
  have hw:=within29_lo n 8 oM
  generalize within29 n 8=K at *
  obtain ⟨k,rfl⟩:∃ k:Nat,K=(k:Int):=⟨K.toNat,by omega⟩
  have hk8:k<8:=by omega
  obtain ⟨hk,hf⟩:=asks8 k hk8
  have cf9:=Pur.grow (fun g cs h=>hq g cs (Gp_Gq m g cs (Gd_Gp g cs h))) (Fail_ok 9)
  have cp9:=printTell_ok (G:=G) hq.pow (failT 9) (by rw [sf29];omega) (by rw [sf29];omega) fitM29
  have ct:=told_bad (G:=G) hE hq.len hq.pow 3 7 (asksN 8) (asksN 8).length rfl oM ⟨1,srcC 8,0⟩ ⟨((asksN 8).getD k .nil).back,5,[],true,tokX⟩ k hk oM (bl3 kR) (Nat.le_of_lt (bl3 kR)) badX back29 cf9 cp9
  have c6:=comes_told (G:=G) ⟨3,7,asksN 8⟩ (by show (asksN 8).length≤1000000;omega) ⟨1,srcC 8,0⟩ ⟨((asksN 8).getD k .nil).back,5,[],true,tokX⟩ rfl k (by show k<(asksN 8).length;omega) back29 ct
  have hlen:((asksN 8).eraseIdx k).length=7:=by rw [List.length_eraseIdx,if_pos oM];omega
  have c7:=comesX (m:=m) (G:=G) hq ((asksN 8).eraseIdx k) oM (srcC 8) 200 (by have:=srcC_eq 8;omega) 3
  have hst:=st16
  clear cs cf cp cf9 cp9 ct hw hk
  generalize asksN 8=A at *
  generalize srcC 8=C at *
  generalize full29=F at *
  generalize back29=B9 at *
  generalize askX=aX at *
  generalize hX:parseR F=X at *
  obtain ⟨⟨st,hd,bd⟩,e⟩:=X
  obtain rfl:st=503:=hst
  clear hX
  generalize hm1:askM29 tokX 200 3=M1 at *
  obtain ⟨M1c,M1w,M1h,M1b,M1d⟩:=M1
  clear hm1
  refine zg [(11,{cs:=[(2,pc c1),(3,pc c2)]}),(12,{cs:=[(6,pc c3)]}),(14,{cs:=[(4,pc c4)]}),(15,{cs:=[(1,pc c5)]}),(16,{cs:=[(9,pc c6)]}),(17,{cs:=[(2,pc c1),(3,pc c7)]})] [false,false] [decide ((↑(8:Nat):Int)<(8:Int))=false,(bif bif (↑(1:Nat):Int) != (1:Int) then true else !true then true else !((SoT.mk (1:Int) C (0:Int)).n==(1:Int)&&((SoT.mk (1:Int) C (0:Int)).conn==C&&((SoT.mk (1:Int) C (0:Int)).now==(0:Int)&&true))))=false,(0:Int)≤(0:Int)∧(0:Int)<(↑(1:Nat):Int),(0:Int)≤(k:Int)∧(k:Int)<(↑(GT.mk (3:Int) (7:Int) A).asks.length:Int),(bif (503:Int)==(503:Int) then (↑(1:Nat):Int)==(1:Int) else false)=true→(0:Int)≤(0:Int)∧(0:Int)<(↑(1:Nat):Int),(bif (503:Int)==(503:Int) then (↑(1:Nat):Int)==(1:Int) else false)=true→inR .i64 ((100:Int)+(k:Int)),(bif bif bif bif (503:Int)==(503:Int) then (↑(1:Nat):Int)==(1:Int) else false then ((GT.mk (3:Int) (7:Int) A).asks.getD k .nil).front==(100:Int)+(k:Int) else false then (↑(GT.mk (GT.mk (3:Int) (7:Int) A).key (GT.mk (3:Int) (7:Int) A).sec ((GT.mk (3:Int) (7:Int) A).asks.eraseIdx k)).asks.length:Int)==(7:Int) else false then (↑(1:Nat):Int)==(1:Int) else false)=true→(0:Int)≤(0:Int)∧(0:Int)<(↑(1:Nat):Int)] ⟨rfl,(by simp;done),oM,⟨oM,sO⟩,oM,(fun _=>i6),(show (bif bif bif bif (503:Int)==(503:Int) then (↑(1:Nat):Int)==(1:Int) else false then ((GT.mk (3:Int) (7:Int) A).asks.getD k .nil).front==(100:Int)+(↑k:Int) else false then (↑(GT.mk (GT.mk (3:Int) (7:Int) A).key (GT.mk (3:Int) (7:Int) A).sec ((GT.mk (3:Int) (7:Int) A).asks.eraseIdx k)).asks.length:Int)==(7:Int) else false then (↑(1:Nat):Int)==(1:Int) else false)=true→(0:Int)≤(0:Int)∧(0:Int)<(↑(1:Nat):Int) from oM)⟩ ?_
  exact zS [.c (.bool (bif bif bif bif bif bif (503:Int)==(503:Int) then (↑(1:Nat):Int)==(1:Int) else false then ((GT.mk (3:Int) (7:Int) A).asks.getD k .nil).front==(100:Int)+(↑k:Int) else false then (↑(GT.mk (GT.mk (3:Int) (7:Int) A).key (GT.mk (3:Int) (7:Int) A).sec ((GT.mk (3:Int) (7:Int) A).asks.eraseIdx k)).asks.length:Int)==(7:Int) else false then (↑(1:Nat):Int)==(1:Int) else false then !false else false then (↑(GT.mk (3:Int) (7:Int) (A.eraseIdx k++[AsT.mk (200:Int) (3:Int) C])).asks.length:Int)==(8:Int) else false))] (by simp_all;done)
end Go.Proofs.Tw
end
