/- The texts of a proof, one behind the other: an interpreter and its soundness, what the functions of the program answer, and plain laws on that. -/
import Derived.Test.YtckfafoabnfbpaaX8
set_option linter.unusedVariables false
set_option linter.unusedSimpArgs false
set_option linter.unnecessarySimpa false
set_option linter.unusedSectionVars false
set_option maxRecDepth 100000
namespace Go.aO
section
open Go.RowKit Go.Proofs
def aeI (n:Int):List Cf:=[⟨65001,167772161,90,1000,[],[Jl 65002 n,dD 65003 1]⟩,⟨65002,167772162,90,1000,[],[dD 65001 2,dD 65004 1]⟩,⟨65003,167772163,90,1000,[],[dD 65001 3]⟩,⟨65004,167772164,90,1000,[],[dD 65002 3]⟩]
theorem ahO (N:Nat) (n:Int):aT env N 25 0 5 (WI n 0 QE)= .ok (.norm,WI n 1 (aeI n)):=by kernel_rfl
theorem ahP (N:Nat) (n:Int):aT env N 25 0 5 (WI n 1 (aeI n))= .ok (.norm,WI n 2 (sQ n)):=by kernel_rfl
theorem QL:dN Lk.ok Dw:=⟨by show 3≤big; decide,fun x hx=>by
 simp only[Dw,List.mem_cons,List.not_mem_nil,or_false] at hx
 rcases hx with rfl|rfl|rfl<;>exact⟨rfl,rfl,rfl⟩⟩
noncomputable def aeJ [Lv] (N:Nat) (n:Int) (x:T):aj T:=nD 6 x fun ys=>chk (decide ((0+ys.length)*80≤140737488355328)) (bif (↑ys.length:Int) !=4 then aj.ok (T.sl 6 []) else chk (decide (0 < (↑ys.length:Int))) (jF ((ys.getD 0 T.dh).ah 5 1 false) fun QT=>bif QT !=2 then aj.ok (T.sl 6 []) else chk (decide (1 < (↑ys.length:Int))) (jF ((ys.getD 1 T.dh).ah 5 1 false) fun n_2=>bif n_2 !=2 then aj.ok (T.sl 6 []) else eG env N 25 5 {tmps:=slots 55 [(0,PV.t (i64 n)),(3,PV.own 0),(4,PV.t (i64 0))],heap:=[au.row 45 6 ys]})))
theorem adp (N:Nat) (n:Int):aB env (N+1) 25 [i64 n]=W [i64 n] (cl N 21 [i64 4,T.sl 2 (([]:List Px).map Px.t),T.sl 3 (Dw.map Lk.t)] (aeJ N n)):=by kernel_rfl
theorem aax (N:Nat) (n:Int):aeJ N n (.sl 6 (QE.map Cf.t))=eG env N 25 5 (WI n 0 QE):=by kernel_rfl
theorem zG {M:Nat} {n:Int} (hM:big≤M) (hn:aS n=true):aB env (M+1) 25 [i64 n]= .ok (.sl 6 ((sQ n).map Cf.t)):=by
 have hbg:=bH
 obtain⟨m,rfl⟩:∃ m,M=m+3:=⟨M - 3,by omega⟩
 have hg:=ace (M:=m+3) (n:=4) (own:=[]) (l:=Dw) rfl ⟨Nat.zero_le _,fun x hx=>by cases hx⟩ QL (show 4*64≤big by decide)
 rw[W9] at hg
 rw[adp,dA (jD (bC hn)),aV hg,aax]
 have it:eF (aT env (m+3) 25 0 5) (m+3) (WI n 0 QE)= .ok (.exit 0,⟨slots 55 [(3,PV.own 0)],[au.row 45 6 (List.map Cf.t (sQ n))]⟩):=by
  rw[bJ (ahO _ n),bJ (ahP _ n)]
  exact iH (aeP _ n (sQ n))
 exact(aN it).trans (L8 _ (sQ n))
theorem sK {a r:Int} (ha:aS a=true) (h:r=1∨r=2∨r=3):(dD a r).ok:=Ed ha (by omega) (by omega)
theorem KZ {a n:Int} (ha:aS a=true) (hn:aS n=true):(Jl a n).ok:=by
 have h:=sK ha (.inr (.inl rfl):(2:Int)=1∨(2:Int)=2∨(2:Int)=3)
 exact⟨h.a,h.r,⟨by show 1≤big; decide,fun x hx=>by
  simp only[Jl,List.mem_singleton] at hx
  subst hx
  exact⟨rfl,⟨rfl,rfl⟩,rfl,rfl,hn⟩⟩,h.o⟩
theorem Bl {n:Int} (hn:aS n=true):dN Cf.ok (sQ n)∧pY (sQ n):=by
 have hb:=bH
 have h0:dN Px.ok []:=⟨Nat.zero_le _,fun x hx=>by cases hx⟩
 refine⟨⟨by show 4≤big; decide,fun c hc=>?_⟩,fun c hc=>?_⟩
 · simp only[sQ,List.mem_cons,List.not_mem_nil,or_false] at hc
   rcases hc with rfl|rfl|rfl|rfl
   · exact⟨rfl,rfl,rfl,rfl,h0,⟨by show 2≤big; decide,fun x hx=>by
      simp only[List.mem_cons,List.not_mem_nil,or_false] at hx
      rcases hx with rfl|rfl
      · exact KZ rfl hn
      · exact sK rfl (by omega)⟩⟩
   · exact⟨rfl,rfl,rfl,rfl,h0,⟨by show 2≤big; decide,fun x hx=>by
      simp only[List.mem_cons,List.not_mem_nil,or_false] at hx
      rcases hx with rfl|rfl
      · exact KZ rfl hn
      · exact sK rfl (by omega)⟩⟩
   · exact⟨rfl,rfl,rfl,rfl,h0,⟨by show 1≤big; decide,fun x hx=>by
      rw[List.mem_singleton.1 hx]
      exact sK rfl (by omega)⟩⟩
   · exact⟨rfl,rfl,rfl,rfl,h0,⟨by show 1≤big; decide,fun x hx=>by
      rw[List.mem_singleton.1 hx]
      exact sK rfl (by omega)⟩⟩
 · simp only[sQ,List.mem_cons,List.not_mem_nil,or_false] at hc
   rcases hc with rfl|rfl|rfl|rfl
   · show 3*8≤big; decide
   · show 3*8≤big; decide
   · show 2*8≤big; decide
   · show 2*8≤big; decide
theorem rM {M:Nat} {t:List Cf} (hM:big+40≤M) (ht:dN Cf.ok t) (hr:pY t):aB env (M+1) 16 [.sl 6 (t.map Cf.t)]= .ok (.ak [i64 ((kY t).1:Int),i64 (kY t).2]):=
 ab9 hM ht (fun c hc=>by have:=hr c hc; omega) fun m=> .inl (Nu ht hr)
theorem acO:iE (sQ 200) 0 0=some (1,0):=by kernel_rfl
theorem WU:kF (sQ 200) 65002=some 1:=by kernel_rfl
theorem aan:nN (sQ 200)=none:=by kernel_rfl
theorem UN:kY []=(0,1):=by kernel_rfl
theorem Nr {M:Nat} (hM:big+50≤M):aB env (M+1) 10 []= .ok (.bool true):=by
 have hb:=bH
 obtain⟨m,rfl⟩:=gV (show 1≤M by omega)
 have adW:=Bl (n:=310) rfl
 have NT:=Bl (n:=200) rfl
 have hnil:aB env (m+1) 16 [.sl 6 []]= .ok (.ak [i64 0,i64 1]):=by
  have:=rM (M:=m) (t:=[]) (by omega) ⟨Nat.zero_le _,fun x hx=>by cases hx⟩ fun c hc=>by cases hc
  rw[UN] at this
  exact this
 have QG:=Dl (M:=m) (t:=sQ 200) (i:=0) (k:=0) (by omega) NT.1 rfl rfl
 rw[acO] at QG
 have hfind:=Hq (M:=m) (t:=sQ 200) (a:=65002) (by omega) NT.1 rfl
 rw[WU] at hfind
 rw[q10,dA rfl,aV (zG (by omega) rfl),aV (rM (by omega) adW.1 adW.2),UM]
 simp only[aH,List.getElem?_cons_zero,List.getElem?_cons_succ]
 rw[aV (zG (by omega) rfl),aV (rM (by omega) NT.1 NT.2),UL]
 simp only[aH,List.getElem?_cons_zero,List.getElem?_cons_succ]
 rw[aV hnil]
 simp only[aH,List.getElem?_cons_zero,List.getElem?_cons_succ]
 rw[aV (zG (by omega) rfl),aV QG]
 simp only[AO,aH,List.getElem?_cons_zero,List.getElem?_cons_succ]
 rw[aV (zG (by omega) rfl),aV hfind]
 simp only[aH,List.getElem?_cons_zero,List.getElem?_cons_succ]
 rw[aV (zG (by omega) rfl),aV (Nu NT.1 NT.2),aan]
 rfl
end
end Go.aO
